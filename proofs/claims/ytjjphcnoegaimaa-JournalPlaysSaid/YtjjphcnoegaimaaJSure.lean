/- lunettelaw04.JournalSure: the walk. -/
import Derived.Test.YtjjphcnoegaimaaOpenAny
import Derived.Test.YtjjphcnoegaimaaTorn
namespace Go.Proofs.Ytjjphcnoegaimaa
open Go.RowKit Go.Shelf Go.Maps
set_option maxRecDepth 20000
set_option linter.unusedVariables false

section
variable {w0 w W W' : World} {X : Nat → Prop} {p jb N B fr n g r : Nat} {h : Nat → ByteArray} {s : DS}
theorem js_writes (h1 : JS w0 X p jb N B fr n g r s W) : Calls Try.prog 25 #[.pointer (some ⟨p, 0, none⟩)] W fun e W' => e = .returned (.int .u64 s.writes) ∧ W = W' := o_writes h1.dev
set_option maxHeartbeats 400000 in
theorem jrec_any (h1 : JS w0 X p jb N B fr n g r s W) : Calls Try.prog 39 #[.pointer (some ⟨jb, 0, none⟩)] W fun e W' => e = .returned (.int .i64 r) ∧ W = W' := by
  have h4 := cl_of h1.obj 4
  go_enter Try.func39, Try.ntmps39
  go_wp2_with fail
  go_ret
  exact ⟨rfl, rfl⟩
theorem js_durable (h1 : JS w0 X p jb N B fr n g r s W) (hc : Clean s h) (i : Nat) (hi : i < N) : Calls Try.prog 45 #[.pointer (some ⟨p, 0, none⟩), .int .i64 i] W fun e W' => e = .returned (.tuple #[.string (h i), .int .i64 0]) ∧ W = W' := by
  have hN := h1.ok.hard
  have e : s.hard.getD i ByteArray.empty = h i := by
    have := hc i (by omega)
    unfold cand at this
    simp only [List.cons.injEq] at this
    exact this.1
  rw [← e]
  obtain ⟨hb, hcc, m, L, h2, h3⟩ := h1.dev.dev
  exact dev_durable h2 i (by omega)
end

set_option maxHeartbeats 16000000 in
theorem sure_walk {w : World} (va : Value) (a : List PutZ) (vb : Value) (b : List PutZ) (keep : ByteArray) (vc : Value) (c : List PutZ) (ha : SlP w (fun _ => False) w va a) (hb : SlP w (fun _ => False) w vb b) (hk : keep.size ≤ 140737488351232) (hc : SlP w (fun _ => False) w vc c) :
    Calls Try.prog 9 #[va, vb, .string keep, vc] w fun e w' => e = .returned (.bool true) ∧ Below w.heap.size w w' := by
  have hmay := may_any ha hb
  have hlc := long04_any hc
  have HM := Lib.hid hmay
  have HLC := Lib.hid hlc
  have HA := Lib.hid ha
  have HB := Lib.hid hb
  have HC := Lib.hid hc
  clear hmay hlc ha hc
  obtain ⟨bo, bcap, rfl, hvb⟩ := hb
  have HVB := Lib.hid hvb
  clear hvb
  go_enter Try.func9, Try.ntmps9
  go_wp2_with fail
  refine HM.out.mono ?_
  rintro e w1 ⟨q, rfl, hq, rfl⟩
  cases q
  · clear hq
    go_wp2_with fail
    refine (alive04_any _).mono ?_
    rintro e w1 ⟨rfl, hB⟩
    go_wp2_with fail
    go_ret
    exact ⟨rfl, hB⟩
  · have HQ := Lib.hid (hq rfl)
    clear hq
    go_wp2_with fail
    refine HLC.out.mono ?_
    rintro e w1 ⟨q, rfl, hq, rfl⟩
    cases q
    rotate_left
    · clear hq
      go_wp2_with fail
      refine (alive04_any _).mono ?_
      rintro e w1 ⟨rfl, hB⟩
      go_wp2_with fail
      go_ret
      exact ⟨rfl, hB⟩
    · have HBC := Lib.hid (hq rfl)
      clear hq
      by_cases hk3 : 300 < keep.size
      · have e3 : decide ((keep.size : Int) > 300) = true := decide_eq_true (by omega)
        clear hk3
        go_wp2_with fail
        refine (alive04_any _).mono ?_
        rintro e w1 ⟨rfl, hB⟩
        go_wp2_with fail
        go_ret
        exact ⟨rfl, hB⟩
      · have e3 : decide ((keep.size : Int) > 300) = false := decide_eq_false (by omega)
        clear hk3
        obtain ⟨-, -, hwa, hwb⟩ := HQ.out
        obtain ⟨LA, hAz, ma⟩ := may_of hwa most_40 (by decide) (by decide)
        obtain ⟨LB, hBz, mb⟩ := may_of hwb most_40 (by decide) (by decide)
        subst hAz hBz
        rw [zP_length] at HVB
        have hLB : LB.length ≤ 4096 := by have := mb.fit; omega
        have HMA := Lib.hid ma
        have HMB := Lib.hid mb
        clear hwa hwb HQ ma mb
        have HZL := Lib.hid (zP_length LB)
        rw [zP_length]
        rw [zP_length] at HB HM
        have hwc := rwhy_any (N := 80) (fr := 1) c HC.out most_40 (by decide) (by decide) (by decide) (by have := HBC.out.1; omega) (fun x hx => by have := HBC.out.2 x hx; omega)
        obtain ⟨cc, hcc⟩ : ∃ cc, whyZ 80 1 40 37 c = cc := ⟨_, rfl⟩
        have HCC := Lib.hid hcc
        clear hwc hcc
        go_wp2_with fail
        refine (o_new 80 (by decide) (by decide) w w (Below.refl _ _)).mono ?_
        rintro e w1 ⟨rfl, h0, hB1⟩
        replace h0 := h0.less (Y := fun _ => False) (fun _ => False.elim)
        have hin : ∀ w' : World, Below w.heap.size w w' → Kb w (fun _ => False) w w' := fun _ hB => Kb.of_below hB (fun k hk => by rcases hk with hk | hk; exact hk; exact hk.elim)
        have HIN := Lib.hid hin
        clear hB1 hin
        go_wp2_with fail
        refine (open_JL (fr := 1) (n := 40) h0 (newS_ok 80) (newS_JL 80 1) (by decide) (by decide) (by decide) (by decide) most_40).mono ?_
        rintro e w2 ⟨rfl, h1, -⟩
        have ha2 := (HA.out.kb (HIN.out _ h1.dev.below)).less (Y := fun k => False ∨ k = w1.heap.size) (fun _ h => .inl h)
        have HCM := Lib.hid (commit_JL LA h1 (newS_JL 80 1) ha2 most_40 HMA.out (by decide) (by decide) (by decide))
        clear h0 h1 ha2
        go_wp2_with fail
        refine HCM.out.mono ?_
        rintro e w3 ⟨s3, f3, rfl, h3, j3, -, -⟩
        have hb3 := (HB.out.kb (HIN.out _ h3.dev.below)).less (Y := fun k => False ∨ k = w1.heap.size) (fun _ h => .inl h)
        have HCM2 := Lib.hid (commit_JL LB h3 j3 hb3 most_40 HMB.out (by decide) (by decide) (by decide))
        clear h3 j3 hb3
        go_wp2_with fail
        refine HCM2.out.mono ?_
        rintro e w4 ⟨s2, f2, rfl, h4, j4, -, -⟩
        have hsc := sectors_any (fr := 1) (n := 40) h4.dev j4.hard (by decide) j4.dead (by decide) (by decide)
        rw [secL_congr (f' := f2) (fun i hi => j4.newest hi)] at hsc
        have HSC := Lib.hid hsc
        have H4 := Lib.hid h4
        have HJL2 := Lib.hid j4
        clear hsc h4 j4
        go_wp2_with fail
        refine HSC.out.mono ?_
        rintro e w5 ⟨v5, rfl, ht⟩
        have H5 := Lib.hid (H4.out.take ht.below)
        have HWT_5 : Hid (TxAt w5 v5 (secL f2 1 40 80) (fun k => w4.heap.size ≤ k ∧ k < w5.heap.size)) := Lib.hid (ht.at.weak (fun k h1 h2 => ⟨h1, h2⟩))
        clear ht
        obtain ⟨ao5, cp5, hv5, hc5⟩ := HWT_5.out
        rw [secL_length] at hv5 hc5
        obtain ⟨g5, hg5, -, -, -⟩ := hc5 (by decide)
        subst hg5
        subst hv5
        clear hc5
        have hwc5 := rwhy_any (N := 80) (fr := 1) c (HC.out.kb (HIN.out _ H5.out.dev.below)) most_40 (by decide) (by decide) (by decide) (by have := HBC.out.1; omega) (fun x hx => by have := HBC.out.2 x hx; omega)
        rw [HCC.out] at hwc5
        have HWC := Lib.hid hwc5
        have hc5 := (HC.out.kb (HIN.out _ H5.out.dev.below)).less (Y := fun k => (False ∨ k = w1.heap.size) ∨ w4.heap.size ≤ k ∧ k < w5.heap.size) (fun _ h => h.elim)
        have HC5 := Lib.hid hc5
        clear hwc5 hc5
        go_wp2_with fail
        refine (js_writes H5.out).mono ?_
        rintro e w6 ⟨rfl, rfl⟩
        go_wp2_with fail
        refine HWC.out.mono ?_
        rintro e w6 ⟨rfl, rfl⟩
        by_cases hz : cc = 0
        · have ez : (cc == 0) = true := by simpa using hz
          clear hz
          go_wp2_with fail
          refine (js_crash H5.out (by decide) keep).mono ?_
          rintro e w7 ⟨rfl, h7, k7⟩
          have hT7 := HWT_5.out.keep (W' := w7) (fun k hy _ => k7 k (.inr (.inr hy)))
          have hj7 := HJL2.out.crash keep
          have hop := open_JL (n := 40) h7.dev h7.ok hj7 (by decide) (by decide) (by decide) (by decide) most_40
          have HOP := Lib.hid hop
          have HT7 := Lib.hid hT7
          have HJ7 := Lib.hid hj7
          clear h7 k7 hT7 hj7 hop
          go_wp2_with fail
          refine HOP.out.mono ?_
          rintro e w8 ⟨rfl, h8, k8⟩
          have hT8 := HT7.out.keep (W' := w8) (fun k hy _ => k8 k (.inr (.inr hy)))
          have hsc := sectors_any (fr := 1) (n := 40) h8.dev HJ7.out.hard (by decide) HJ7.out.dead (by decide) (by decide)
          rw [secL_congr (f' := f2) (fun i hi => HJ7.out.newest hi)] at hsc
          have HSC := Lib.hid hsc
          have HT8 := Lib.hid hT8
          have H8 := Lib.hid h8
          clear hsc hT8 h8 k8
          go_wp2_with fail
          refine (jrec_any H8.out).mono ?_
          rintro e w9 ⟨rfl, rfl⟩
          go_wp2_with fail
          refine (jgen_any H8.out).mono ?_
          rintro e w9 ⟨rfl, rfl⟩
          go_wp2_with fail
          refine HSC.out.mono ?_
          rintro e w9 ⟨v9, rfl, hnow⟩
          have hT9 := HT8.out.keep (fun k _ h => hnow.below.block k h)
          have hsm := same04_yes (fr := 1) (n := 40) hnow.at hT9 (by rw [secL_length]) (by decide) (by decide) (by rw [secL_length]; decide) (fun i _ _ => rfl)
          have HSM := Lib.hid hsm
          have HT9 := Lib.hid hT9
          have H9 := Lib.hid (H8.out.of hnow.below)
          clear hsm hnow hT9
          go_wp2_with fail
          refine HSM.out.mono ?_
          rintro e w10 ⟨rfl, hB10⟩
          have H10 := Lib.hid (H9.out.of hB10)
          have HT10 := Lib.hid (HT9.out.keep (fun k _ h => hB10.block k h))
          clear hB10
          go_wp2_with fail
          go_loopw [24, 25, 26] (fun v24 _ _ wr => ∃ k : Nat, k ≤ LB.length ∧ v24 = .int .i64 k ∧ wr = w10) (fun v24 _ _ _ => LB.length - (intOf v24).toNat)
          case atStart => exact ⟨0, Nat.zero_le _, rfl, rfl⟩
          case round =>
            obtain ⟨k, hk, rfl, rfl⟩ := hrel
            by_cases hlt : k < LB.length
            · obtain ⟨b, off, rfl, hb, hc⟩ := HVB.out (by omega)
              obtain ⟨c0, -⟩ := hc k hlt
              rw [zP_get LB k hlt] at c0
              have hbl : b < w.heap.size := hb.elim id (fun x => x.elim)
              have d0 := (H10.out.dev.below.cell (p := ⟨b, off + k * 2, none⟩) hbl).trans c0
              have hx := HMB.out.put LB[k] (List.getElem_mem hlt)
              obtain ⟨ao9, cp9, e9, hc9⟩ := HT10.out
              rw [secL_length] at hc9 e9
              obtain ⟨g9, e9b, -, -, hcell⟩ := hc9 (by decide)
              subst e9b
              cases e9
              have d1 := hcell LB[k].1 hx.1
              rw [secL_get _ _ _ _ _ hx.1, if_neg (by omega)] at d1
              have hdu := js_durable H10.out (HJ7.out.clean) LB[k].1 hx.1
              have HDU := Lib.hid hdu
              have hx1 := hx.1
              clear hc c0 hcell hdu hx hc9 HT10
              generalize LB[k].1 = sec at *
              generalize f2 sec = tx at *
              go_wp2_with fail
              refine HDU.out.mono ?_
              rintro e w11 ⟨rfl, rfl⟩
              go_wp2_with fail
              go_roundw
              case rel => exact ⟨k + 1, by omega, by go_num, trivial⟩
              case measure => simp [intOf]; omega
            · obtain rfl : k = LB.length := by omega
              go_wp2_with fail
              refine (alive04_any _).mono ?_
              rintro e w11 ⟨rfl, hB11⟩
              have H11 := Lib.hid (H10.out.of hB11)
              clear hB11
              go_wp2_with fail
              go_ret
              exact ⟨rfl, H11.out.dev.below⟩
        · have ez : (cc == 0) = false := by simpa using hz
          have hno := commit_no c H5.out HC5.out most_40 (by decide) (by decide) (by have := HBC.out.1; omega) (fun x hx => by have := HBC.out.2 x hx; unfold maxLen; omega) cc HCC.out ez
          have HNO := Lib.hid hno
          clear hz hno
          go_wp2_with fail
          refine HNO.out.mono ?_
          rintro e w6 ⟨rfl, hB6⟩
          have H6 := Lib.hid (H5.out.of hB6)
          have HWT_6 := Lib.hid (HWT_5.out.keep (fun k _ h => hB6.block k h))
          clear hB6
          go_wp2_with fail
          refine (js_writes H6.out).mono ?_
          rintro e w7 ⟨rfl, rfl⟩
          go_wp2_with fail
          refine (js_crash H6.out (by decide) keep).mono ?_
          rintro e w7 ⟨rfl, h7, k7⟩
          have hT7 := HWT_6.out.keep (W' := w7) (fun k hy _ => k7 k (.inr (.inr hy)))
          have hj7 := HJL2.out.crash keep
          have hop := open_JL (n := 40) h7.dev h7.ok hj7 (by decide) (by decide) (by decide) (by decide) most_40
          have HOP := Lib.hid hop
          have HT7 := Lib.hid hT7
          have HJ7 := Lib.hid hj7
          clear h7 k7 hT7 hj7 hop
          go_wp2_with fail
          refine HOP.out.mono ?_
          rintro e w8 ⟨rfl, h8, k8⟩
          have hT8 := HT7.out.keep (W' := w8) (fun k hy _ => k8 k (.inr (.inr hy)))
          have hsc := sectors_any (fr := 1) (n := 40) h8.dev HJ7.out.hard (by decide) HJ7.out.dead (by decide) (by decide)
          rw [secL_congr (f' := f2) (fun i hi => HJ7.out.newest hi)] at hsc
          have HSC := Lib.hid hsc
          have HT8 := Lib.hid hT8
          have H8 := Lib.hid h8
          clear hsc hT8 h8 k8
          go_wp2_with fail
          refine (jrec_any H8.out).mono ?_
          rintro e w9 ⟨rfl, rfl⟩
          go_wp2_with fail
          refine (jgen_any H8.out).mono ?_
          rintro e w9 ⟨rfl, rfl⟩
          go_wp2_with fail
          refine HSC.out.mono ?_
          rintro e w9 ⟨v9, rfl, hnow⟩
          have hT9 := HT8.out.keep (fun k _ h => hnow.below.block k h)
          have hsm := same04_yes (fr := 1) (n := 40) hnow.at hT9 (by rw [secL_length]) (by decide) (by decide) (by rw [secL_length]; decide) (fun i _ _ => rfl)
          have HSM := Lib.hid hsm
          have HT9 := Lib.hid hT9
          have H9 := Lib.hid (H8.out.of hnow.below)
          clear hsm hnow hT9
          go_wp2_with fail
          refine HSM.out.mono ?_
          rintro e w10 ⟨rfl, hB10⟩
          have H10 := Lib.hid (H9.out.of hB10)
          have HT10 := Lib.hid (HT9.out.keep (fun k _ h => hB10.block k h))
          clear hB10
          go_wp2_with fail
          go_loopw [24, 25, 26] (fun v24 _ _ wr => ∃ k : Nat, k ≤ LB.length ∧ v24 = .int .i64 k ∧ wr = w10) (fun v24 _ _ _ => LB.length - (intOf v24).toNat)
          case atStart => exact ⟨0, Nat.zero_le _, rfl, rfl⟩
          case round =>
            obtain ⟨k, hk, rfl, rfl⟩ := hrel
            by_cases hlt : k < LB.length
            · obtain ⟨b, off, rfl, hb, hc⟩ := HVB.out (by omega)
              obtain ⟨c0, -⟩ := hc k hlt
              rw [zP_get LB k hlt] at c0
              have hbl : b < w.heap.size := hb.elim id (fun x => x.elim)
              have d0 := (H10.out.dev.below.cell (p := ⟨b, off + k * 2, none⟩) hbl).trans c0
              have hx := HMB.out.put LB[k] (List.getElem_mem hlt)
              obtain ⟨ao9, cp9, e9, hc9⟩ := HT10.out
              rw [secL_length] at hc9 e9
              obtain ⟨g9, e9b, -, -, hcell⟩ := hc9 (by decide)
              subst e9b
              cases e9
              have d1 := hcell LB[k].1 hx.1
              rw [secL_get _ _ _ _ _ hx.1, if_neg (by omega)] at d1
              have hdu := js_durable H10.out (HJ7.out.clean) LB[k].1 hx.1
              have HDU := Lib.hid hdu
              have hx1 := hx.1
              clear hc c0 hcell hdu hx hc9 HT10
              generalize LB[k].1 = sec at *
              generalize f2 sec = tx at *
              go_wp2_with fail
              refine HDU.out.mono ?_
              rintro e w11 ⟨rfl, rfl⟩
              go_wp2_with fail
              go_roundw
              case rel => exact ⟨k + 1, by omega, by go_num, trivial⟩
              case measure => simp [intOf]; omega
            · obtain rfl : k = LB.length := by omega
              go_wp2_with fail
              refine (alive04_any _).mono ?_
              rintro e w11 ⟨rfl, hB11⟩
              have H11 := Lib.hid (H10.out.of hB11)
              clear hB11
              go_wp2_with fail
              go_ret
              exact ⟨rfl, H11.out.dev.below⟩
end Go.Proofs.Ytjjphcnoegaimaa
