/- The law InodeTells: which inodes may be, which bytes each has, which inode any bytes are, how many pages a size has, what indirect blocks tell: as the document says. -/
import Derived.Test.YtcdmipgopffaaaaInoRef4
import Derived.Test.YtcdmipgopffaaaaInoBack
import Derived.Laws.AppendOwnNone
namespace Go.Proofs.Ytcdmipgopffaaaa
open Go.RowKit Go.ChangeShapes Go.WideShapes Go.Joins
set_option maxRecDepth 100000
set_option linter.unusedVariables false
set_option linter.unusedSimpArgs false

/-- A slice of numbers that comes in, nil or not. -/
structure SlJ (k : IntKind) (W : World) (v : Value) (zs : List Int) : Prop where
  sl : SlI k W v zs
  nil : (v = .slice none 0 0 ∧ zs = []) ∨ ∃ a c, v = .slice (some a) zs.length c
theorem open_numsJ {H : Type} {P : Program} {enc : TypeId × Value → H} {w : World} {base : Nat} {held : Bool} {spare : Nat → Bool} {t e : TypeId} {k : IntKind} {v : Value} {d : DataW H} {ps : List MemPlace}
    (ht : P.underlying t = some (.slice e)) (he : P.underlying e = some (.int k)) (hc : P.cellsOf e = 1) {r : Reach} {b0 : Nat} (hval : Value.okWide P w r b0 t v) (hd : DataW.Trod enc P w base spare held t v d ps) : ∃ zs, SlJ k w v zs := by
  obtain ⟨zs, hz⟩ := open_nums ht he hc hval hd
  refine ⟨zs, hz, ?_⟩
  obtain ⟨fuel, hf⟩ := hd
  obtain ⟨ao, c, rfl, hcell⟩ := hz.val
  rcases open_ints ht he hc hf with ⟨h1, h2⟩ | ⟨a, len, cap, zs', hv, hb, hl, hm, hlen, hx, hcell, hwf⟩
  · have : Value.slice ao zs.length c = .slice none 0 0 := by simpa [Value.cells] using h1
    rw [this]
    exact .inl ⟨rfl, by injection this with _ h3 _; exact List.length_eq_zero_iff.1 h3⟩
  · have : Value.slice ao zs.length c = .slice (some a) len cap := by simpa [Value.cells] using hv
    injection this with h3 h4 h5
    subst h3
    exact .inr ⟨a, c, rfl⟩
theorem sli_below {k : IntKind} {w W : World} {v : Value} {zs : List Int} (h : SlI k w v zs) (hB : Below w.heap.size w W) : SlI k W v zs := by
  obtain ⟨ao, cap, rfl, hc⟩ := h.val
  refine ⟨⟨ao, cap, rfl, fun h0 => ?_⟩, h.wf⟩
  obtain ⟨b, off, rfl, hb, hx⟩ := hc h0
  exact ⟨b, off, rfl, Nat.lt_of_lt_of_le hb hB.size, fun j hj => (hB.cell (p := ⟨b, off + j, none⟩) hb).trans (hx j hj)⟩
theorem own_sli {W : World} {B : Nat} {v : Value} {zs : List Int} (h : W.ownsRow B 40 1 v zs.length (u16s zs)) (hw : ∀ n ∈ zs, (Lit.int .u16 n).wf = true) : SlI .u16 W v zs := by
  rcases zs with _ | ⟨z, zs⟩
  · rcases h.2 with ⟨rfl, _⟩ | ⟨g, cap, cur, rfl, h0, hh, hr⟩
    · exact ⟨⟨none, 0, rfl, fun h => by simp at h⟩, hw⟩
    · exact ⟨⟨_, cap, rfl, fun h => by simp at h⟩, hw⟩
  · obtain ⟨g, cap, cur, rfl, -, hg, hc, hx⟩ := own_cap (n := zs.length) h
    exact sli_row (zs := z :: zs) hg hx hw
theorem tl_wf (l : List UInt8) : ∀ n ∈ tl l, (Lit.int .u16 n).wf = true := by
  unfold tl
  split
  · exact gots_wf l
  · intro n hn; simp at hn
theorem tl_len (l : List UInt8) : (tl l).length ≤ 32 := by
  unfold tl
  split
  · rw [gots_length]; omega
  · simp
theorem itold_any (l : List UInt8) (w : World) : Calls Try.prog 35 #[.string (bs l)] w fun e w' => (∃ v, e = .returned (.tuple #[v, .int .i64 (tz l)]) ∧ w'.ownsRow w.heap.size 40 1 v (tl l).length (u16s (tl l))) ∧ Below w.heap.size w w' := by
  by_cases h : l.length = 64
  · have e1 : tl l = gots l := by unfold tl; rw [if_pos h]
    have e2 : tz l = 0 := by unfold tz; rw [if_pos h]
    rw [e1, e2, gots_length, h]
    exact told_yes l h w
  · have e1 : tl l = [] := by unfold tl; rw [if_neg h]
    rw [e1]
    by_cases h2 : l.length < 64
    · have e2 : tz l = 6 := by unfold tz; rw [if_neg h, if_pos h2]
      rw [e2]
      refine (told_end l h2 w).mono ?_
      rintro e w' ⟨rfl, rfl⟩
      exact ⟨⟨_, rfl, ⟨rfl, .inl ⟨rfl, rfl⟩⟩⟩, Below.refl _ _⟩
    · have e2 : tz l = 7 := by unfold tz; rw [if_neg h, if_neg h2]
      rw [e2]
      refine (told_form l (by omega) w).mono ?_
      rintro e w' ⟨rfl, rfl⟩
      exact ⟨⟨_, rfl, ⟨rfl, .inl ⟨rfl, rfl⟩⟩⟩, Below.refl _ _⟩
theorem TellR.eq {zs : List Int} {T T' : List UInt8} {z z' : Int} (h : TellR zs T z) (h' : TellR zs T' z') : T = T' ∧ z = z' := by
  rcases h with ⟨h1, h2, h3⟩ | ⟨h1, h2, h3⟩ <;> rcases h' with ⟨h1', h2', h3'⟩ | ⟨h1', h2', h3'⟩
  · exact ⟨h3.trans h3'.symm, h1.trans h1'.symm⟩
  · omega
  · omega
  · exact ⟨h3.trans h3'.symm, h1.trans h1'.symm⟩
theorem iget_both (l : List UInt8) (hl : l.length ≤ 100000) : ∃ (y : Ino) (z : Int), y.Wf ∧
    (∀ w : World, Calls Try.prog 30 #[.string (bs l)] w fun e w' => e = .returned (.tuple #[.agg (ic y), .int .i64 z]) ∧ Below w.heap.size w w') ∧
    (∀ w : World, Calls Try.prog 32 #[.string (bs l)] w fun e w' => e = .returned (.tuple #[.agg (ic y), .int .i64 z]) ∧ Below w.heap.size w w') := by
  have hz : Ino.zero.Wf := ⟨by decide, by decide, by decide, by decide, by decide, by decide, by decide, by decide⟩
  by_cases h : l.length < 32
  · exact ⟨Ino.zero, 6, hz, iget_short l h, rget_short l h⟩
  · by_cases hy : (toIno l).May ∧ (toIno l).bytes = l
    · exact ⟨toIno l, 0, toIno_wf l, fun w => (iget_long l (by omega) hl w).mono (fun e w' hh => ⟨hh.2.1 hy, hh.1⟩), fun w => (rget_long l (by omega) hl w).mono (fun e w' hh => ⟨hh.2.1 hy, hh.1⟩)⟩
    · exact ⟨Ino.zero, 7, hz, fun w => (iget_long l (by omega) hl w).mono (fun e w' hh => ⟨hh.2.2 hy, hh.1⟩), fun w => (rget_long l (by omega) hl w).mono (fun e w' hh => ⟨hh.2.2 hy, hh.1⟩)⟩
theorem ino_both (x : Ino) (hw : x.Wf) : ∃ (A : ByteArray) (z : Int) (m : Bool),
    (∀ w : World, Calls Try.prog 29 #[.agg (ic x)] w fun e w' => e = .returned (.tuple #[.string A, .int .i64 z]) ∧ Below w.heap.size w w') ∧
    (∀ w : World, Calls Try.prog 39 #[.agg (ic x)] w fun e w' => e = .returned (.bool m) ∧ Below w.heap.size w w') ∧
    (m = true → z = 0 ∧ (∀ w : World, Calls Try.prog 40 #[.agg (ic x)] w fun e w' => e = .returned (.int .i64 0) ∧ Below w.heap.size w w') ∧ (∀ w : World, Calls Try.prog 41 #[.agg (ic x)] w fun e w' => e = .returned (.string A) ∧ Below w.heap.size w w')) ∧
    (m = false → A = ⟨#[]⟩ ∧ z = 2 ∧ (∀ w : World, Calls Try.prog 40 #[.agg (ic x)] w fun e w' => e = .returned (.int .i64 2) ∧ Below w.heap.size w w')) := by
  obtain ⟨m, hm, hmay⟩ := rmay_ino x hw
  by_cases h : x.May
  · obtain rfl := hm.2 h
    exact ⟨_, _, true, iput_yes x hw h, hmay, fun _ => ⟨rfl, check_may x hw h, rput_ino x hw⟩, (fun e => by cases e)⟩
  · obtain rfl : m = false := by cases m; rfl; exact absurd (hm.1 rfl) h
    exact ⟨_, _, false, iput_no x hw h, hmay, (fun e => by cases e), fun _ => ⟨rfl, rfl, check_maynot x hw h⟩⟩
theorem ieq_self (x : Ino) : ieq x x = true := by simp [ieq]
attribute [local go_sem ↓] eq_ino ieq_self

set_option maxHeartbeats 16000000 in
theorem inotells_walk (v0 : Value) (x : Ino) (s : ByteArray) (size : Int) (v3 : Value) (zs : List Int) {w : World} (hx : InoV v0 x) (hs : s.size ≤ 140737488351232) (wz : (Lit.int .u32 size).wf = true) (hv : SlJ .u16 w v3 zs) :
    Calls Try.prog 9 #[v0, .string s, .int .u32 size, v3] w fun e w' => e = .returned (.bool true) ∧ Below w.heap.size w w' := by
  obtain rfl := hx.val
  have hxw := hx.wf
  clear hx
  obtain ⟨n0, n1⟩ := wfu32 wz
  clear wz
  obtain ⟨l, rfl⟩ : ∃ l, s = bs l := ⟨_, (bs_of s).symm⟩
  rw [bs_size] at hs
  have hsl := bs_size l
  have hv' := hv.sl
  have HV := Lib.hid hv
  obtain ⟨ao, cap, rfl, -⟩ := hv'.val
  clear hv hv'
  by_cases hl : 1000 < l.length
  · have dl : decide ((l.length : Int) > 1000) = true := decide_eq_true (by omega)
    unfold ic
    go_enter Try.func9, Try.ntmps9
    go_wp2_with fail
    refine (alive07 _).mono ?_
    rintro e w1 ⟨rfl, hB⟩
    go_wp2_with fail
    go_ret
    exact ⟨rfl, bt (bnew _ _) hB⟩
  have dl : decide ((l.length : Int) > 1000) = false := decide_eq_false (by omega)
  by_cases hn : 100 < zs.length
  · have dn : decide ((zs.length : Int) > 100) = true := decide_eq_true (by omega)
    unfold ic
    go_enter Try.func9, Try.ntmps9
    go_wp2_with fail
    refine (alive07 _).mono ?_
    rintro e w1 ⟨rfl, hB⟩
    go_wp2_with fail
    go_ret
    exact ⟨rfl, bt (bnew _ _) hB⟩
  have dn : decide ((zs.length : Int) > 100) = false := decide_eq_false (by omega)
  obtain ⟨A, z1, m, P1, P2, P3, P4⟩ := ino_both x hxw
  obtain ⟨y, z2, -, G1, G2⟩ := iget_both l (by omega)
  have T1 := itold_any l
  have T2 := rtold_any l (by omega)
  have Q1 := pages_any size n0 n1
  have Q2 := rpages_any size n0 n1
  have hwf := tl_wf l
  have hlen := tl_len l
  generalize tl l = tls at *
  generalize tz l = z3 at *
  generalize pages size = pg at *
  generalize hbl : bs l = bl at *
  clear hbl
  unfold ic at *
  have hX0 := hp_new w (.cells #[.int .u8 x.k, .int .u16 x.l, .int .u32 x.s, .int .u16 x.d0, .int .u16 x.d1, .int .u16 x.d2, .int .u16 x.d3, .int .u16 x.n] 51) rfl
  have B0 := bnew w (.cells #[.int .u8 x.k, .int .u16 x.l, .int .u32 x.s, .int .u16 x.d0, .int .u16 x.d1, .int .u16 x.d2, .int .u16 x.d3, .int .u16 x.n] 51)
  have P1h := Lib.hid P1
  have P2h := Lib.hid P2
  have P3h := Lib.hid P3
  have P4h := Lib.hid P4
  have G1h := Lib.hid G1
  have G2h := Lib.hid G2
  have T1h := Lib.hid T1
  have T2h := Lib.hid T2
  have Q1h := Lib.hid Q1
  have Q2h := Lib.hid Q2
  have hwfh := Lib.hid hwf
  have hlenh := Lib.hid hlen
  clear P1 P2 P3 P4 G1 G2 T1 T2 Q1 Q2 hwf hlen hxw n0 n1
  have x0 := cl_of hX0 0
  have x1 := cl_of hX0 1
  have x2 := cl_of hX0 2
  have x3 := cl_of hX0 3
  have x4 := cl_of hX0 4
  have x5 := cl_of hX0 5
  have x6 := cl_of hX0 6
  have x7 := cl_of hX0 7
  go_enter Try.func9, Try.ntmps9
  go_wp2_with fail
  refine (P1h.out _).mono ?_
  rintro e w1 ⟨rfl, hB1⟩
  have hX1 := bblk hB1 hX0
  have B1 := bt B0 hB1
  clear hX0 B0 hB1
  clear x0 x1 x2 x3 x4 x5 x6 x7
  have x0 := cl_of hX1 0
  have x1 := cl_of hX1 1
  have x2 := cl_of hX1 2
  have x3 := cl_of hX1 3
  have x4 := cl_of hX1 4
  have x5 := cl_of hX1 5
  have x6 := cl_of hX1 6
  have x7 := cl_of hX1 7
  go_wp2_with fail
  refine (G1h.out _).mono ?_
  rintro e w2 ⟨rfl, hB2⟩
  have hX2 := bblk hB2 hX1
  have B2 := bt B1 hB2
  replace hX2 := blk_old hX2 (.cells #[.int .u8 y.k, .int .u16 y.l, .int .u32 y.s, .int .u16 y.d0, .int .u16 y.d1, .int .u16 y.d2, .int .u16 y.d3, .int .u16 y.n] 51)
  have hY2 := hp_new w2 (.cells #[.int .u8 y.k, .int .u16 y.l, .int .u32 y.s, .int .u16 y.d0, .int .u16 y.d1, .int .u16 y.d2, .int .u16 y.d3, .int .u16 y.n] 51) rfl
  replace B2 := bal B2 (.cells #[.int .u8 y.k, .int .u16 y.l, .int .u32 y.s, .int .u16 y.d0, .int .u16 y.d1, .int .u16 y.d2, .int .u16 y.d3, .int .u16 y.n] 51)
  clear hX1 B1 hB2
  clear x0 x1 x2 x3 x4 x5 x6 x7
  have x0 := cl_of hX2 0
  have x1 := cl_of hX2 1
  have x2 := cl_of hX2 2
  have x3 := cl_of hX2 3
  have x4 := cl_of hX2 4
  have x5 := cl_of hX2 5
  have x6 := cl_of hX2 6
  have x7 := cl_of hX2 7
  have y0 := cl_of hY2 0
  have y1 := cl_of hY2 1
  have y2 := cl_of hY2 2
  have y3 := cl_of hY2 3
  have y4 := cl_of hY2 4
  have y5 := cl_of hY2 5
  have y6 := cl_of hY2 6
  have y7 := cl_of hY2 7
  go_wp2_with fail
  refine (G2h.out _).mono ?_
  rintro e w3 ⟨rfl, hB3⟩
  have hX3 := bblk hB3 hX2
  have hY3 := bblk hB3 hY2
  have B3 := bt B2 hB3
  replace hX3 := blk_old hX3 (.cells #[.int .u8 y.k, .int .u16 y.l, .int .u32 y.s, .int .u16 y.d0, .int .u16 y.d1, .int .u16 y.d2, .int .u16 y.d3, .int .u16 y.n] 51)
  replace hY3 := blk_old hY3 (.cells #[.int .u8 y.k, .int .u16 y.l, .int .u32 y.s, .int .u16 y.d0, .int .u16 y.d1, .int .u16 y.d2, .int .u16 y.d3, .int .u16 y.n] 51)
  have hR3 := hp_new w3 (.cells #[.int .u8 y.k, .int .u16 y.l, .int .u32 y.s, .int .u16 y.d0, .int .u16 y.d1, .int .u16 y.d2, .int .u16 y.d3, .int .u16 y.n] 51) rfl
  replace B3 := bal B3 (.cells #[.int .u8 y.k, .int .u16 y.l, .int .u32 y.s, .int .u16 y.d0, .int .u16 y.d1, .int .u16 y.d2, .int .u16 y.d3, .int .u16 y.n] 51)
  clear hX2 hY2 B2 hB3
  clear x0 x1 x2 x3 x4 x5 x6 x7 y0 y1 y2 y3 y4 y5 y6 y7
  have x0 := cl_of hX3 0
  have x1 := cl_of hX3 1
  have x2 := cl_of hX3 2
  have x3 := cl_of hX3 3
  have x4 := cl_of hX3 4
  have x5 := cl_of hX3 5
  have x6 := cl_of hX3 6
  have x7 := cl_of hX3 7
  have y0 := cl_of hY3 0
  have y1 := cl_of hY3 1
  have y2 := cl_of hY3 2
  have y3 := cl_of hY3 3
  have y4 := cl_of hY3 4
  have y5 := cl_of hY3 5
  have y6 := cl_of hY3 6
  have y7 := cl_of hY3 7
  have r0 := cl_of hR3 0
  have r1 := cl_of hR3 1
  have r2 := cl_of hR3 2
  have r3 := cl_of hR3 3
  have r4 := cl_of hR3 4
  have r5 := cl_of hR3 5
  have r6 := cl_of hR3 6
  have r7 := cl_of hR3 7
  go_upto_region 6 with (fail)
  go_cut [15, 16] (fun s15 s16 wx => ∃ T z, s15 = .string (bs T) ∧ s16 = .int .i64 z ∧ TellR zs T z ∧ wx.heap[w.heap.size]? = some (.cells #[.int .u8 x.k, .int .u16 x.l, .int .u32 x.s, .int .u16 x.d0, .int .u16 x.d1, .int .u16 x.d2, .int .u16 x.d3, .int .u16 x.n] 51 (0, 0)) ∧ wx.heap[w2.heap.size]? = some (.cells #[.int .u8 y.k, .int .u16 y.l, .int .u32 y.s, .int .u16 y.d0, .int .u16 y.d1, .int .u16 y.d2, .int .u16 y.d3, .int .u16 y.n] 51 (0, 0)) ∧ wx.heap[w3.heap.size]? = some (.cells #[.int .u8 y.k, .int .u16 y.l, .int .u32 y.s, .int .u16 y.d0, .int .u16 y.d1, .int .u16 y.d2, .int .u16 y.d3, .int .u16 y.n] 51 (0, 0)) ∧ Below w.heap.size w wx)
  case first =>
    obtain ⟨i0, hi, hz0, hz1, hz2⟩ := info_parts Try.infoU16
    generalize hW0 : w3.alloc (.cells #[.int .u8 y.k, .int .u16 y.l, .int .u32 y.s, .int .u16 y.d0, .int .u16 y.d1, .int .u16 y.d2, .int .u16 y.d3, .int .u16 y.n] 51) = W0 at *
    clear hW0
    rcases HV.out.nil with ⟨hnil, rfl⟩ | ⟨a, c, hsome⟩
    · injection hnil with h1 h2 h3
      subst h1 h3
      go_wp2_with (at_builtin; refine wpList_append_own_none rfl (.const (.slice none 0 0)) (.tmp 48) 58 rfl 0 40 i0 1 Try.underlying58 hi (.slice none 0 0) 0 [] rfl ⟨rfl, .inl ⟨rfl, rfl⟩⟩ rfl ?_)
      go_wp2_with fail
      refine (tell_some (zs := []) ⟨⟨none, 0, rfl, fun h => by simp at h⟩, fun n hn => by simp at hn⟩).mono ?_
      rintro e w4 ⟨⟨T, z, rfl, hT⟩, hB4⟩
      go_wp2_with fail
      go_meet
      exact ⟨T, z, rfl, rfl, hT, bblk hB4 hX3, bblk hB4 hY3, bblk hB4 hR3, bt B3 hB4⟩
    · injection hsome with h1 h2 h3
      subst h1 h3
      have hsl3 := sli_below HV.out.sl B3
      have hnw : ∀ (j : Nat) u, (u16s zs)[j]? = some u → W0.cell? (a.add j) = some u := by
        intro j u hj
        have hjl : j < zs.length := by simpa [u16s] using (List.getElem?_eq_some_iff.1 hj).1
        obtain ⟨ao', cap', e1, hc⟩ := hsl3.val
        injection e1 with e1 e2 e3
        obtain ⟨b, off, e4, -, hx⟩ := hc (by omega)
        subst e1
        injection e4 with e4
        subst e4
        rw [Addr.add_lit]
        rw [u16s_get zs hjl] at hj
        rw [← hj]
        exact hx j hjl
      have HNW := Lib.hid hnw
      clear hnw hsl3
      go_wp2_with (at_builtin; refine wpList_append_own _ rfl (.const (.slice none 0 0)) (.tmp 48) 58 rfl W0.heap.size 40 i0 (.int .u16 0) 1 2 Try.underlying58 hi hz0 hz1 hz2 rfl (by decide) (.slice none 0 0) 0 [] rfl ⟨rfl, .inl ⟨rfl, rfl⟩⟩ a zs.length cap (u16s zs) rfl (by simp [u16s]) HNW.out (one_u16s zs) (by unfold maxLen; omega) (by omega) (Nat.le_refl _) ?_)
      intro v' w4 hrow hg hn4
      have hBg : Below W0.heap.size W0 w4 := Below.grown (Below.refl _ _) hg (Nat.le_refl _) (fun k hk => by cases hk)
      (try rw [Nat.zero_add] at hrow)
      (try rw [List.nil_append] at hrow)
      have hX4 := bblk hBg hX3
      have hY4 := bblk hBg hY3
      have hR4 := bblk hBg hR3
      have B4 := bt B3 hBg
      have hsl4 := own_sli hrow HV.out.sl.wf
      clear hrow hg hn4 hBg
      go_wp2_with fail
      refine (tell_some hsl4).mono ?_
      rintro e w5 ⟨⟨T, z, rfl, hT⟩, hB5⟩
      go_wp2_with fail
      go_meet
      exact ⟨T, z, rfl, rfl, hT, bblk hB5 hX4, bblk hB5 hY4, bblk hB5 hR4, bt B4 hB5⟩
  case rest =>
    obtain ⟨T, z4, rfl, rfl, hT, hX4, hY4, hR4, B4⟩ := hcut
    clear hX3 hY3 hR3 B3
    clear x0 x1 x2 x3 x4 x5 x6 x7 y0 y1 y2 y3 y4 y5 y6 y7 r0 r1 r2 r3 r4 r5 r6 r7
    have x0 := cl_of hX4 0
    have x1 := cl_of hX4 1
    have x2 := cl_of hX4 2
    have x3 := cl_of hX4 3
    have x4 := cl_of hX4 4
    have x5 := cl_of hX4 5
    have x6 := cl_of hX4 6
    have x7 := cl_of hX4 7
    have y0 := cl_of hY4 0
    have y1 := cl_of hY4 1
    have y2 := cl_of hY4 2
    have y3 := cl_of hY4 3
    have y4 := cl_of hY4 4
    have y5 := cl_of hY4 5
    have y6 := cl_of hY4 6
    have y7 := cl_of hY4 7
    have r0 := cl_of hR4 0
    have r1 := cl_of hR4 1
    have r2 := cl_of hR4 2
    have r3 := cl_of hR4 3
    have r4 := cl_of hR4 4
    have r5 := cl_of hR4 5
    have r6 := cl_of hR4 6
    have r7 := cl_of hR4 7
    go_wp2_with fail
    refine (rtell_any (sli_below HV.out.sl B4) (by omega)).mono ?_
    rintro e w6 ⟨⟨T', z4', rfl, hT'⟩, hB5⟩
    obtain ⟨rfl, rfl⟩ := hT.eq hT'
    clear hT hT'
    have hX5 := bblk hB5 hX4
    have hY5 := bblk hB5 hY4
    have hR5 := bblk hB5 hR4
    have B5 := bt B4 hB5
    clear hX4 hY4 hR4 B4 hB5
    clear x0 x1 x2 x3 x4 x5 x6 x7 y0 y1 y2 y3 y4 y5 y6 y7 r0 r1 r2 r3 r4 r5 r6 r7
    have x0 := cl_of hX5 0
    have x1 := cl_of hX5 1
    have x2 := cl_of hX5 2
    have x3 := cl_of hX5 3
    have x4 := cl_of hX5 4
    have x5 := cl_of hX5 5
    have x6 := cl_of hX5 6
    have x7 := cl_of hX5 7
    have y0 := cl_of hY5 0
    have y1 := cl_of hY5 1
    have y2 := cl_of hY5 2
    have y3 := cl_of hY5 3
    have y4 := cl_of hY5 4
    have y5 := cl_of hY5 5
    have y6 := cl_of hY5 6
    have y7 := cl_of hY5 7
    have r0 := cl_of hR5 0
    have r1 := cl_of hR5 1
    have r2 := cl_of hR5 2
    have r3 := cl_of hR5 3
    have r4 := cl_of hR5 4
    have r5 := cl_of hR5 5
    have r6 := cl_of hR5 6
    have r7 := cl_of hR5 7
    generalize bs T = bT at *
    go_wp2_with fail
    refine (T1h.out _).mono ?_
    rintro e w7 ⟨⟨u1, rfl, hr1⟩, hB6⟩
    have hX6 := bblk hB6 hX5
    have hY6 := bblk hB6 hY5
    have hR6 := bblk hB6 hR5
    have B6 := bt B5 hB6
    clear hX5 hY5 hR5 B5
    clear x0 x1 x2 x3 x4 x5 x6 x7 y0 y1 y2 y3 y4 y5 y6 y7 r0 r1 r2 r3 r4 r5 r6 r7
    have x0 := cl_of hX6 0
    have x1 := cl_of hX6 1
    have x2 := cl_of hX6 2
    have x3 := cl_of hX6 3
    have x4 := cl_of hX6 4
    have x5 := cl_of hX6 5
    have x6 := cl_of hX6 6
    have x7 := cl_of hX6 7
    have y0 := cl_of hY6 0
    have y1 := cl_of hY6 1
    have y2 := cl_of hY6 2
    have y3 := cl_of hY6 3
    have y4 := cl_of hY6 4
    have y5 := cl_of hY6 5
    have y6 := cl_of hY6 6
    have y7 := cl_of hY6 7
    have r0 := cl_of hR6 0
    have r1 := cl_of hR6 1
    have r2 := cl_of hR6 2
    have r3 := cl_of hR6 3
    have r4 := cl_of hR6 4
    have r5 := cl_of hR6 5
    have r6 := cl_of hR6 6
    have r7 := cl_of hR6 7
    go_wp2_with fail
    refine (T2h.out _).mono ?_
    rintro e w8 ⟨⟨u2, rfl, hr2⟩, hB7⟩
    have hX7 := bblk hB7 hX6
    have hY7 := bblk hB7 hY6
    have hR7 := bblk hB7 hR6
    have B7 := bt B6 hB7
    clear hX6 hY6 hR6 B6
    clear x0 x1 x2 x3 x4 x5 x6 x7 y0 y1 y2 y3 y4 y5 y6 y7 r0 r1 r2 r3 r4 r5 r6 r7
    have x0 := cl_of hX7 0
    have x1 := cl_of hX7 1
    have x2 := cl_of hX7 2
    have x3 := cl_of hX7 3
    have x4 := cl_of hX7 4
    have x5 := cl_of hX7 5
    have x6 := cl_of hX7 6
    have x7 := cl_of hX7 7
    have y0 := cl_of hY7 0
    have y1 := cl_of hY7 1
    have y2 := cl_of hY7 2
    have y3 := cl_of hY7 3
    have y4 := cl_of hY7 4
    have y5 := cl_of hY7 5
    have y6 := cl_of hY7 6
    have y7 := cl_of hY7 7
    have r0 := cl_of hR7 0
    have r1 := cl_of hR7 1
    have r2 := cl_of hR7 2
    have r3 := cl_of hR7 3
    have r4 := cl_of hR7 4
    have r5 := cl_of hR7 5
    have r6 := cl_of hR7 6
    have r7 := cl_of hR7 7
    have hs1 := own_sli (ownsRow_belowI hr1 hB7) hwfh.out
    have hs2 := own_sli hr2 hwfh.out
    have HSM := Lib.hid (rsame_any hs1 hs2 (by have := hlenh.out; omega) (by have := hlenh.out; omega) rfl)
    obtain ⟨p1, c1, rfl, -⟩ := hs1.val
    obtain ⟨p2, c2, rfl, -⟩ := hs2.val
    clear hr1 hr2 hs1 hs2 hB6 hB7
    go_wp2_with fail
    refine HSM.out.mono ?_
    rintro e w9 ⟨rfl, hB8⟩
    have hX8 := bblk hB8 hX7
    have hY8 := bblk hB8 hY7
    have hR8 := bblk hB8 hR7
    have B8 := bt B7 hB8
    clear hX7 hY7 hR7 B7 HSM hB8
    clear x0 x1 x2 x3 x4 x5 x6 x7 y0 y1 y2 y3 y4 y5 y6 y7 r0 r1 r2 r3 r4 r5 r6 r7
    have x0 := cl_of hX8 0
    have x1 := cl_of hX8 1
    have x2 := cl_of hX8 2
    have x3 := cl_of hX8 3
    have x4 := cl_of hX8 4
    have x5 := cl_of hX8 5
    have x6 := cl_of hX8 6
    have x7 := cl_of hX8 7
    have y0 := cl_of hY8 0
    have y1 := cl_of hY8 1
    have y2 := cl_of hY8 2
    have y3 := cl_of hY8 3
    have y4 := cl_of hY8 4
    have y5 := cl_of hY8 5
    have y6 := cl_of hY8 6
    have y7 := cl_of hY8 7
    have r0 := cl_of hR8 0
    have r1 := cl_of hR8 1
    have r2 := cl_of hR8 2
    have r3 := cl_of hR8 3
    have r4 := cl_of hR8 4
    have r5 := cl_of hR8 5
    have r6 := cl_of hR8 6
    have r7 := cl_of hR8 7
    go_wp2_with fail
    refine (Q1h.out _).mono ?_
    rintro e w10 ⟨rfl, rfl⟩
    go_wp2_with fail
    refine (Q2h.out _).mono ?_
    rintro e w11 ⟨rfl, rfl⟩
    go_wp2_with fail
    refine (P2h.out _).mono ?_
    rintro e w12 ⟨rfl, hB9⟩
    have hX9 := bblk hB9 hX8
    have B9 := bt B8 hB9
    clear hX8 B8 hB9
    clear x0 x1 x2 x3 x4 x5 x6 x7 y0 y1 y2 y3 y4 y5 y6 y7 r0 r1 r2 r3 r4 r5 r6 r7
    have x0 := cl_of hX9 0
    have x1 := cl_of hX9 1
    have x2 := cl_of hX9 2
    have x3 := cl_of hX9 3
    have x4 := cl_of hX9 4
    have x5 := cl_of hX9 5
    have x6 := cl_of hX9 6
    have x7 := cl_of hX9 7
    cases m
    · obtain ⟨rfl, rfl, hc⟩ := P4h.out rfl
      have HC := Lib.hid hc
      clear hc
      go_wp2_with fail
      refine (HC.out _).mono ?_
      rintro e w13 ⟨rfl, hB10⟩
      have B10 := bt B9 hB10
      clear hB10
      go_wp2_with fail
      refine (alive07 _).mono ?_
      rintro e w14 ⟨rfl, hB11⟩
      go_wp2_with fail
      go_ret
      exact ⟨rfl, bt B10 hB11⟩
    · obtain ⟨rfl, hc, hp⟩ := P3h.out rfl
      have HC := Lib.hid hc
      have HP := Lib.hid hp
      clear hc hp
      go_wp2_with fail
      refine (HP.out _).mono ?_
      rintro e w13 ⟨rfl, hB10⟩
      have hX10 := bblk hB10 hX9
      have B10 := bt B9 hB10
      clear hX9 B9 hB10
      clear x0 x1 x2 x3 x4 x5 x6 x7
      have x0 := cl_of hX10 0
      have x1 := cl_of hX10 1
      have x2 := cl_of hX10 2
      have x3 := cl_of hX10 3
      have x4 := cl_of hX10 4
      have x5 := cl_of hX10 5
      have x6 := cl_of hX10 6
      have x7 := cl_of hX10 7
      go_wp2_with fail
      refine (HC.out _).mono ?_
      rintro e w14 ⟨rfl, hB11⟩
      have hX11 := bblk hB11 hX10
      have B11 := bt B10 hB11
      clear hX10 B10 hB11
      clear x0 x1 x2 x3 x4 x5 x6 x7
      have x0 := cl_of hX11 0
      have x1 := cl_of hX11 1
      have x2 := cl_of hX11 2
      have x3 := cl_of hX11 3
      have x4 := cl_of hX11 4
      have x5 := cl_of hX11 5
      have x6 := cl_of hX11 6
      have x7 := cl_of hX11 7
      go_wp2_with fail
      refine (alive07 _).mono ?_
      rintro e w15 ⟨rfl, hB12⟩
      go_wp2_with fail
      go_ret
      exact ⟨rfl, bt B11 hB12⟩
      end Go.Proofs.Ytcdmipgopffaaaa
