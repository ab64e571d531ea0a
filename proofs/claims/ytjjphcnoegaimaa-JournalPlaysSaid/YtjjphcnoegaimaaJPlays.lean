/- lunettelaw04.JournalPlays: the walk. -/
import Derived.Test.YtjjphcnoegaimaaJPlays0
import Derived.Test.YtjjphcnoegaimaaJAtomic
namespace Go.Proofs.Ytjjphcnoegaimaa
open Go.RowKit Go.Shelf Go.Maps
set_option maxRecDepth 20000
set_option linter.unusedVariables false

theorem py_same {fr n : Nat} {h : Nat → ByteArray} {Wl : List ByteArray} (hl : Wl.length = 80) (hw : ∀ i, Out 80 fr n i → Wl.getD i ByteArray.empty = h i) : ∀ i, i < (secL h fr n 80).length → ¬ (fr ≤ i ∧ i < fr + n) → (secL h fr n 80).getD i ByteArray.empty = Wl.getD i ByteArray.empty := by
  intro i hi hn
  rw [secL_length] at hi
  rw [secL_get _ _ _ _ _ hi, if_neg hn, hw i ⟨hi, by omega⟩]
theorem py_laid {fr n : Nat} {h h2 : Nat → ByteArray} {Wl : List ByteArray} {l : Puts} (mp : MayP 80 fr n l) (hl : Wl.length = 80) (hw : ∀ i, Out 80 fr n i → Wl.getD i ByteArray.empty = h i) (ho : ∀ i, Out 80 fr n i → h2 i = laid h l i) : ∀ i, Out 80 fr n i → (laidL Wl l).getD i ByteArray.empty = h2 i := by
  intro i hi
  rw [laidL_get l Wl (fun j => Wl.getD j ByteArray.empty) (fun x hx => by rw [hl]; exact (mp.put x hx).1) i (by rw [hl]; exact hi.1) rfl (fun _ _ => rfl), ho i hi]
  exact laid_same l _ _ i (.inl (hw i hi))
theorem writes_quiet (m : Nat) (hm : m ≤ 100000) (w : World) : Calls Try.prog 31 #[.int .i64 m] w fun e w' => e = .returned (.int .i64 (2 * (m : Int) + (places m : Nat) + 2)) ∧ w' = w := (writes_any m hm w).mono (fun _ _ ⟨a, b⟩ => ⟨a, b.symm⟩)
theorem writes_quiet2 {w0 W : World} {X : Nat → Prop} {p jb N B fr n g r : Nat} {s : DS} (h1 : JS w0 X p jb N B fr n g r s W) : Calls Try.prog 25 #[.pointer (some ⟨p, 0, none⟩)] W fun e W' => e = .returned (.int .u64 s.writes) ∧ W' = W := (js_writes h1).mono (fun _ _ ⟨a, b⟩ => ⟨a, b.symm⟩)

set_option maxHeartbeats 32000000 in
theorem plays_walk {w : World} (fr n : Int) (v : Value) (ls : List St4) (hfr : (Lit.int .i64 fr).wf = true) (hn : (Lit.int .i64 n).wf = true) (hsl : Sl4 w v ls) :
    Calls Try.prog 7 #[.int .i64 fr, .int .i64 n, v] w fun e w' => e = .returned (.bool true) ∧ Below w.heap.size w w' := by
  have hmany := many_any hsl
  obtain ⟨⟨ao, cap, rfl, hval⟩, hputs⟩ := hsl
  obtain ⟨i0, ii, hz0, hz1, hz2⟩ := infoPut
  have HMY := Lib.hid hmany
  have HV := Lib.hid hval
  have HP := Lib.hid hputs
  have HMAY := Lib.hid (rmay_any fr n)
  clear hmany hval hputs
  go_enter Try.func7, Try.ntmps7
  go_wp2_with fail
  refine HMY.out.mono ?_
  rintro e w1 ⟨q, rfl, hq, rfl⟩
  cases q
  rotate_left
  · clear hq
    go_wp2_with fail
    refine (alive04_any _).mono ?_
    rintro e w1 ⟨rfl, hB⟩
    go_wp2_with fail
    go_ret
    exact ⟨rfl, hB⟩
  · have HBR := Lib.hid (hq rfl)
    clear hq
    go_wp2_with fail
    refine (jcommit_nil _ _).mono ?_
    rintro e w1 ⟨rfl, rfl⟩
    go_wp2_with fail
    refine (jmax_nil _).mono ?_
    rintro e w1 ⟨rfl, rfl⟩
    go_wp2_with fail
    refine (jgen_nil _).mono ?_
    rintro e w1 ⟨rfl, rfl⟩
    go_wp2_with fail
    refine (jrec_nil _).mono ?_
    rintro e w1 ⟨rfl, rfl⟩
    go_wp2_with fail
    refine (o_new 80 (by decide) (by decide) w w (Below.refl _ _)).mono ?_
    rintro e w1 ⟨rfl, h0, hB1⟩
    replace h0 := h0.less (Y := fun _ => False) (fun _ => False.elim)
    cases hmb : mayB 80 fr n
    · have HNO := Lib.hid (open_no h0 (newS_ok 80).hard fr n hmb)
      rw [hmb] at HMAY
      have HB1 := Lib.hid hB1
      clear h0 hB1 hmb
      go_wp2_with fail
      refine HNO.out.mono ?_
      rintro e w2 ⟨rfl, rfl⟩
      go_wp2_with fail
      refine (HMAY.out _).mono ?_
      rintro e w2 ⟨rfl, rfl⟩
      go_wp2_with fail
      refine (alive04_any _).mono ?_
      rintro e w2 ⟨rfl, hB⟩
      have HB2 := Lib.hid (bt HB1.out hB)
      clear hB
      go_wp2_with fail
      go_ret
      exact ⟨rfl, HB2.out⟩
    · rw [hmb] at HMAY
      obtain ⟨hn4, hn256, hfr0, hfr80⟩ := of_decide_eq_true hmb
      obtain ⟨n, rfl⟩ := Int.eq_ofNat_of_zero_le (show 0 ≤ n by omega)
      obtain ⟨fr, rfl⟩ := Int.eq_ofNat_of_zero_le hfr0
      have h4 : 4 ≤ n := by omega
      have h256 : n ≤ 256 := by omega
      have hN80 : fr + n ≤ 80 := by omega
      obtain ⟨m, hm⟩ := most_is n (by omega)
      have HMM := Lib.hid hm
      clear hmb hn4 hn256 hfr0 hfr80 hfr hn hm
      go_wp2_with fail
      refine (open_JL (fr := fr) (n := n) h0 (newS_ok 80) (newS_JL 80 fr) h4 h256 hN80 (by decide) HMM.out).mono ?_
      rintro e w2 ⟨rfl, h1, -⟩
      have H1 := Lib.hid h1
      clear h0 h1 hB1
      go_wp2_with fail
      refine (HMAY.out _).mono ?_
      rintro e w3 ⟨rfl, rfl⟩
      go_wp2_with fail
      refine (jmax_any H1.out HMM.out (by omega)).mono ?_
      rintro e w3 ⟨rfl, rfl⟩
      go_wp2_with fail
      refine (rmax_any n m (by omega) HMM.out _).mono ?_
      rintro e w3 ⟨rfl, rfl⟩
      go_wp2_with fail
      refine (jgen_any H1.out).mono ?_
      rintro e w3 ⟨rfl, rfl⟩
      go_wp2_with fail
      refine (jrec_any H1.out).mono ?_
      rintro e w3 ⟨rfl, rfl⟩
      have HJ0 := Lib.hid (newS_JL 80 fr)
      have hsc := sectors_any (fr := fr) (n := n) H1.out.dev HJ0.out.hard (by decide) HJ0.out.dead (by omega) (by omega)
      rw [secL_congr (f' := fun _ => zsec) (fun i hi => HJ0.out.newest hi)] at hsc
      have HSC := Lib.hid hsc
      clear hsc
      go_wp2_with fail
      refine HSC.out.mono ?_
      rintro e w3 ⟨v3, rfl, ht⟩
      have hj3 := H1.out.take ht.below
      have hPI : PyI w (w.heap.size + 1) fr n 0 w1.heap.size 0 v3 w3 := ⟨_, _, _, _, _, hj3, HJ0.out, ht.at.weak (fun q h1 h2 => ⟨.inr ⟨h1, h2⟩, fun e => by have := blk_lt H1.out.obj; omega⟩), secL_length _ _ _ _, fun i hi => by rw [secL_get _ _ _ _ _ hi.1, if_neg (by have := hi.2; omega)]⟩
      have HPI := Lib.hid hPI
      clear ht hj3 hPI
      go_wp2_with fail
      go_loopw [12, 13, 14, 15, 16, 17, 18, 19, 20] (fun v12 _ v14 v15 v16 _ _ _ _ wr => ∃ k jb g : Nat, k ≤ ls.length ∧ v12 = .pointer (some ⟨jb, 0, none⟩) ∧ v15 = .int .u64 g ∧ v16 = .int .i64 k ∧ g ≤ k ∧ PyI w (w.heap.size + 1) fr n k jb g v14 wr) (fun _ _ _ _ v16 _ _ _ _ _ => ls.length - (intOf v16).toNat)
      case atStart => exact ⟨0, _, 0, Nat.zero_le _, rfl, rfl, rfl, Nat.le_refl _, HPI.out⟩
      case round =>
        obtain ⟨k, jb, g, hk, rfl, rfl, rfl, hgk, hI⟩ := hrel
        have h40 := HBR.out.1
        by_cases hlt : k < ls.length
        · obtain ⟨b, off, rfl, hbl, hc⟩ := HV.out (by omega)
          obtain ⟨c0, c1, c2⟩ := hc k hlt
          rw [List.getD_eq_getElem?_getD, List.getElem?_eq_getElem hlt, Option.getD_some] at c0 c1 c2
          obtain ⟨hpk, hshape⟩ := HP.out ls[k] (List.getElem_mem hlt)
          have HBP := Lib.hid (HBR.out.2 ls[k] (List.getElem_mem hlt))
          clear hc
          generalize ls[k] = x at *
          obtain ⟨cr, kp, lv, pl⟩ := x
          dsimp only at c0 c1 c2 hpk HBP hshape
          obtain ⟨cc, hcc⟩ : ∃ cc, whyZ 80 fr n m pl = cc := ⟨_, rfl⟩
          have HCC := Lib.hid hcc
          have HPK := Lib.hid hpk
          obtain ⟨lao, lcap, rfl, hlv⟩ := hpk
          have HLV := Lib.hid hlv
          have hin : ∀ w' : World, Below w.heap.size w w' → SlP w (fun _ => False) w' (.slice lao pl.length lcap) pl := fun w' hB => HPK.out.kb (Kb.of_below hB (fun k hk => by rcases hk with hk | hk; exact hk; exact hk.elim))
          have hwhy : ∀ w' : World, Below w.heap.size w w' → Calls Try.prog 42 #[.int .i64 80, .int .i64 fr, .int .i64 n, .slice lao pl.length lcap] w' fun e w2 => e = .returned (.int .i64 cc) ∧ w' = w2 := fun w' hB => by
            have := rwhy_any (N := 80) (fr := fr) pl (hin w' hB) HMM.out (by omega) (by omega) (by decide) (by have := HBP.out.1.1; omega) (fun x hx => by have := HBP.out.1.2 x hx; omega)
            rw [HCC.out] at this
            exact this
          have HIN := Lib.hid hin
          have HWH := Lib.hid hwhy
          obtain ⟨X, s, h, r, Wl, hj, hjl, hT, hWl, hWi⟩ := hI
          have d0 := (hj.dev.below.cell (p := ⟨b, off + k * 3, none⟩) hbl).trans c0
          have d1 := (hj.dev.below.cell (p := ⟨b, off + k * 3 + 1, none⟩) hbl).trans c1
          have d2 := (hj.dev.below.cell (p := ⟨b, off + k * 3 + 2, none⟩) hbl).trans c2
          have HWL : Hid (Wl.length = 80 ∧ ∀ i, Out 80 fr n i → Wl.getD i ByteArray.empty = h i) := Lib.hid ⟨hWl, hWi⟩
          have HJL := Lib.hid hjl
          have HJ := Lib.hid hj
          have HT := Lib.hid hT
          have hbp60 := HBP.out.1.1
          clear hcc hin hwhy hlv hj hjl hT hWl hWi
          cases cr
          · go_wp2_with fail
            refine (js_writes HJ.out).mono ?_
            rintro e w6 ⟨rfl, rfl⟩
            rcases hshape with hsh | ⟨ad, lc2, hsh⟩
            · have hl0 : pl.length = 0 := by injection hsh
              rw [hsh] at d2 c2 HWH HIN
              have HSL : Hid (SlP w (X) wr (.slice none 0 0) pl) := Lib.hid ⟨none, 0, by rw [hl0], fun hp => by omega⟩
              have HJa := HJ
              have HTa := HT
              have HL0 := Lib.hid hl0
              clear hl0 hsh
              go_wp2_with fail
              by_cases hz : cc = 0
              · have ez : (cc == 0) = true := by simpa using hz
                have ez' : (cc != 0) = false := by simpa using hz
                obtain ⟨LL, hLL, mpl⟩ := may_of (HCC.out.trans hz) HMM.out hN80 (by decide)
                subst hLL
                have HMP := Lib.hid mpl
                clear hz mpl
                go_wp2_with fail
                refine (commit_JLw LL HJa.out HJL.out HSL.out HMM.out HMP.out (by omega) (by omega) (by omega)).mono ?_
                rintro e w8 ⟨s8, h8, rfl, hj8, jl8, ho8, kk8, wr1, wr2⟩
                have HJ8 := Lib.hid hj8
                have HT8 := Lib.hid (HTa.out.keep (W' := w8) (fun k hy _ => kk8 k (.inr hy)))
                have d2 := ((HJ8.out.dev.below).cell (p := ⟨b, off + k * 3 + 2, none⟩) hbl).trans c2
                have HJL8 := Lib.hid jl8
                have HO8 := Lib.hid ho8
                have HWY := Lib.hid (HWH.out w8 HJ8.out.dev.below)
                have hsl8 := HIN.out w8 HJ8.out.dev.below
                clear hj8 jl8 ho8 kk8
                have HLD := Lib.hid (laid_any (w0 := w) (X := fun _ => False) LL HT8.out (by rw [HWL.out.1]; decide) (by rw [HWL.out.1]; decide) hsl8 (fun k hk => by rcases hk with hk | hk; exact Nat.lt_of_lt_of_le hk HJ8.out.dev.below.size; exact hk.elim) (by have := HMP.out.fit; have := HMP.out.area; omega) (fun x hx => by rw [HWL.out.1]; exact (HMP.out.put x hx).1))
                clear hsl8
                have hgw : IntKind.u64.wrap ((g : Int) + 1) = (g : Int) + 1 := IntWalk.u64_in _ (by omega)
                go_wp2_with fail
                refine HWY.out.mono ?_
                rintro e w9 ⟨rfl, rfl⟩
                go_wp2_with fail
                refine HLD.out.mono ?_
                rintro e w9 ⟨gl, cl, rfl, hL⟩
                have d2b := (hL.below.cell (p := ⟨b, off + k * 3 + 2, none⟩) (Nat.lt_of_lt_of_le hbl HJ8.out.dev.below.size)).trans d2
                have HJ9 := Lib.hid (HJ8.out.take hL.below)
                have HT9 : Hid (TxAt w9 (.slice (some ⟨gl, 0, none⟩) (laidL Wl LL).length cl) (laidL Wl LL) (fun q => ((X) q ∨ w8.heap.size ≤ q ∧ q < w9.heap.size) ∧ q ≠ jb)) := Lib.hid (hL.at.weak (fun q h1 h2 => ⟨.inr h1, fun e => by have := HJ8.out.dev.lt q (e ▸ HJ8.out.own); omega⟩))
                clear hL d2
                have hwl9 : (laidL Wl LL).length = 80 := by rw [laidL_length]; exact HWL.out.1
                rw [laidL_length] at HT9
                have HW9 : Hid ((laidL Wl LL).length = 80 ∧ ∀ i, Out 80 fr n i → (laidL Wl LL).getD i ByteArray.empty = h8 i) := Lib.hid ⟨hwl9, py_laid HMP.out HWL.out.1 HWL.out.2 HO8.out⟩
                have hzl := zP_length LL
                have hLN : ((zP LL).length : Int) = 0 := by first | rfl | (have := HL0.out; omega)
                obtain ⟨wv, hwv⟩ : ∃ wv : Int, 2 * ((zP LL).length : Int) + (places (zP LL).length : Nat) + 2 = wv := ⟨_, rfl⟩
                have hll60 : (zP LL).length ≤ 60 := hbp60
                have hplc : places (zP LL).length ≤ 60 := by unfold places; omega
                have hwq : ∀ W : World, Calls Try.prog 31 #[.int .i64 (0)] W fun e w' => e = .returned (.int .i64 wv) ∧ w' = W := fun W => by
                  rw [← hLN, ← hwv]
                  exact writes_quiet _ (by omega) W
                have HWQ := Lib.hid hwq
                have hwj := fun (W : World) (hj : JS w (fun q => (X) q ∨ w8.heap.size ≤ q ∧ q < w9.heap.size) (w.heap.size + 1) jb 80 (600 * k + 600) fr n (g + 1) r s8 W) => writes_quiet2 hj
                have HWJ := Lib.hid hwj
                obtain ⟨dv, hdv⟩ : ∃ dv : Int, s8.writes - s.writes = dv := ⟨_, rfl⟩
                rw [← hzl] at wr2
                have hdv0 : 0 ≤ dv ∧ dv ≤ wv := by rw [← hdv, ← hwv]; push_cast at wr2; omega
                have hwv0 : 0 ≤ wv ∧ wv ≤ 20000 := by rw [← hwv]; omega
                have hd1 : IntKind.u64.wrap (s8.writes - s.writes) = dv := by rw [hdv]; exact IntWalk.u64_in _ (by omega)
                have hd2 : IntKind.u64.wrap wv = wv := IntWalk.u64_in _ (by omega)
                have hd3 : decide (dv > wv) = false := decide_eq_false (by omega)
                have hd3' : decide (wv < dv) = false := hd3
                clear hwl9 hwq hwj hdv hwv wr1 wr2 hplc hzl hLN hll60
                generalize s8.writes = b8 at *
                generalize s.writes = b0 at *
                go_wp2_with fail
                go_quiet (first | (go_at_call 25; exact Calls.quiet_of_same (HWJ.out _ (JS.drewn HJ9.out _))) | (go_at_call 31; exact Calls.quiet_of_same (HWQ.out _)))
                have HJ10 := Lib.hid (JS.drewn HJ9.out nq)
                have HT10 := Lib.hid (HT9.out.keep (W' := w9.drewN nq) (fun _ _ _ => rfl))
                have hsc := sectors_any (fr := fr) (n := n) HJ10.out.dev HJL8.out.hard (by decide) HJL8.out.dead (by omega) (by omega)
                rw [secL_congr (f' := h8) (fun i hi => HJL8.out.newest hi)] at hsc
                have HSC := Lib.hid hsc
                have eg : ((g + 1 : Nat) : Int) = (g : Int) + 1 := by push_cast; rfl
                have hjg := jgen_any HJ10.out
                rw [eg] at hjg
                have HJG := Lib.hid hjg
                have HEG := Lib.hid eg
                clear hsc eg hjg hd1 hd2 hd3 hd3'
                generalize w9.drewN nq = w9b at *
                go_wp2_with fail
                refine HJG.out.mono ?_
                rintro e w10 ⟨rfl, rfl⟩
                go_wp2_with fail
                refine HSC.out.mono ?_
                rintro e w10 ⟨v10, rfl, hnow⟩
                have hT11 := HT10.out.keep (fun k _ h => hnow.below.block k h)
                have HSM := Lib.hid (same04_yes (fr := fr) (n := n) hnow.at hT11 (by rw [secL_length, HW9.out.1]) (by omega) (by omega) (by rw [secL_length]; decide) (py_same HW9.out.1 HW9.out.2))
                have HT11 := Lib.hid hT11
                have HJ11 := Lib.hid (HJ10.out.of hnow.below)
                clear hnow hT11
                go_wp2_with fail
                refine HSM.out.mono ?_
                rintro e w12 ⟨rfl, hB12⟩
                have hfin : PyI w (w.heap.size + 1) fr n (k + 1) jb (g + 1) (.slice (some ⟨gl, 0, none⟩) Wl.length cl) w12 := ⟨_, _, h8, _, _, (HJ11.out.of hB12).mono (by omega), HJL8.out, HT11.out.keep (fun k _ h => hB12.block k h), HW9.out.1, HW9.out.2⟩
                have HF := Lib.hid hfin
                clear hB12 hfin
                go_wp2_with fail
                go_roundw
                case rel => exact ⟨k + 1, jb, g + 1, by omega, rfl, by rw [HEG.out], by go_num, by omega, HF.out⟩
                case measure => simp [intOf]; omega
              · have ez : (cc == 0) = false := by simpa using hz
                have ez' : (cc != 0) = true := by simpa using hz
                clear hz
                have HNO := Lib.hid (commit_no pl HJa.out HSL.out HMM.out (by omega) (by omega) (by have := HBP.out.1.1; omega) (fun x hx => by have := HBP.out.1.2 x hx; unfold maxLen; omega) cc HCC.out ez)
                go_wp2_with fail
                refine HNO.out.mono ?_
                rintro e w8 ⟨rfl, hB8⟩
                have HJ8 := Lib.hid (HJa.out.of hB8)
                have HT8 := Lib.hid (HTa.out.keep (fun k _ h => hB8.block k h))
                have d2 := ((HJ8.out.dev.below).cell (p := ⟨b, off + k * 3 + 2, none⟩) hbl).trans c2
                clear hB8
                have HWY := Lib.hid (HWH.out w8 HJ8.out.dev.below)
                go_wp2_with fail
                refine HWY.out.mono ?_
                rintro e w9 ⟨rfl, rfl⟩
                go_wp2_with fail
                refine (js_writes HJ8.out).mono ?_
                rintro e w9 ⟨rfl, rfl⟩
                have hsc := sectors_any (fr := fr) (n := n) HJ8.out.dev HJL.out.hard (by decide) HJL.out.dead (by omega) (by omega)
                rw [secL_congr (f' := h) (fun i hi => HJL.out.newest hi)] at hsc
                have HSC := Lib.hid hsc
                clear hsc
                go_wp2_with fail
                refine (jgen_any HJ8.out).mono ?_
                rintro e w9 ⟨rfl, rfl⟩
                go_wp2_with fail
                refine HSC.out.mono ?_
                rintro e w9 ⟨v9, rfl, hnow⟩
                have hT9 := HT8.out.keep (fun k _ h => hnow.below.block k h)
                have HSM := Lib.hid (same04_yes (fr := fr) (n := n) hnow.at hT9 (by rw [secL_length, HWL.out.1]) (by omega) (by omega) (by rw [secL_length]; decide) (py_same HWL.out.1 HWL.out.2))
                have HT9 := Lib.hid hT9
                have HJ9 := Lib.hid (HJ8.out.of hnow.below)
                clear hnow hT9
                go_wp2_with fail
                refine HSM.out.mono ?_
                rintro e w10 ⟨rfl, hB10⟩
                have hfin : PyI w (w.heap.size + 1) fr n (k + 1) jb g u14 w10 := ⟨_, _, h, _, Wl, (HJ9.out.of hB10).mono (by omega), HJL.out, HT9.out.keep (fun k _ h => hB10.block k h), HWL.out.1, HWL.out.2⟩
                have HF := Lib.hid hfin
                clear hB10 hfin
                go_wp2_with fail
                go_roundw
                case rel => exact ⟨k + 1, jb, g, by omega, rfl, rfl, by go_num, by omega, HF.out⟩
                case measure => simp [intOf]; omega
            · cases hsh
              have hnews2 : ∀ j u, (pcz pl)[j]? = some u → wr.cell? (Addr.add ad j) = some u := by
                intro j u hj2
                have hpos : 0 < pl.length := by
                  rcases Nat.eq_zero_or_pos pl.length with h0 | h0
                  · rw [List.eq_nil_of_length_eq_zero h0] at hj2; cases hj2
                  · exact h0
                obtain ⟨lb, lo, e2, hlb, hlc⟩ := HLV.out hpos
                cases e2
                have h1 := pcz_news (W := w) hlc j u hj2
                rw [Addr.add_lit] at h1 ⊢
                exact ((HJ.out.dev.below).cell (p := ⟨lb, lo + j, none⟩) (hlb.elim id (fun x => x.elim))).trans h1
              have hone := pcz_one pl
              have hplen := pcz_length pl
              have h63 : 0 + pl.length ≤ maxLen := by unfold maxLen; omega
              have hby : (0 + pl.length) * 24 ≤ 140737488355328 := by omega
              go_wp2_with (at_builtin; refine wpList_append_own _ rfl _ _ 52 rfl wr.heap.size 76 i0 (.agg #[.int .i64 0, .string ByteArray.empty]) 2 24 Try.underlying52 ii hz0 hz1 hz2 rfl (by decide) _ 0 [] rfl (World.ownsRow_nil _ _ _ _) ad pl.length lcap (pcz pl) rfl hplen hnews2 hone h63 hby (Nat.le_refl _) ?_; intro va wa hown hgrow _)
              rw [Nat.zero_add, List.nil_append] at hown
              have hBa : Below wr.heap.size wr wa := (Below.refl _ _).grown hgrow (Nat.le_refl _) (fun k e => by cases e)
              have HJa := Lib.hid (HJ.out.take hBa)
              have HSL : Hid (SlP w (fun q => (X) q ∨ wr.heap.size ≤ q ∧ q < wa.heap.size) wa va pl) := Lib.hid ((slp_own hown).less (fun _ h => .inr h))
              have HTa : Hid (TxAt wa u14 Wl (fun q => ((X) q ∨ wr.heap.size ≤ q ∧ q < wa.heap.size) ∧ q ≠ jb)) := Lib.hid ((HT.out.keep (fun k _ h => hBa.block k h)).weak (fun q h1 _ => ⟨.inl h1.1, h1.2⟩))
              clear hown hgrow hBa hnews2 hone hplen h63 hby
              by_cases hz : cc = 0
              · have ez : (cc == 0) = true := by simpa using hz
                have ez' : (cc != 0) = false := by simpa using hz
                obtain ⟨LL, hLL, mpl⟩ := may_of (HCC.out.trans hz) HMM.out hN80 (by decide)
                subst hLL
                have HMP := Lib.hid mpl
                clear hz mpl
                go_wp2_with fail
                refine (commit_JLw LL HJa.out HJL.out HSL.out HMM.out HMP.out (by omega) (by omega) (by omega)).mono ?_
                rintro e w8 ⟨s8, h8, rfl, hj8, jl8, ho8, kk8, wr1, wr2⟩
                have HJ8 := Lib.hid hj8
                have HT8 := Lib.hid (HTa.out.keep (W' := w8) (fun k hy _ => kk8 k (.inr hy)))
                have d2 := ((HJ8.out.dev.below).cell (p := ⟨b, off + k * 3 + 2, none⟩) hbl).trans c2
                have HJL8 := Lib.hid jl8
                have HO8 := Lib.hid ho8
                have HWY := Lib.hid (HWH.out w8 HJ8.out.dev.below)
                have hsl8 := HIN.out w8 HJ8.out.dev.below
                clear hj8 jl8 ho8 kk8
                have HLD := Lib.hid (laid_any (w0 := w) (X := fun _ => False) LL HT8.out (by rw [HWL.out.1]; decide) (by rw [HWL.out.1]; decide) hsl8 (fun k hk => by rcases hk with hk | hk; exact Nat.lt_of_lt_of_le hk HJ8.out.dev.below.size; exact hk.elim) (by have := HMP.out.fit; have := HMP.out.area; omega) (fun x hx => by rw [HWL.out.1]; exact (HMP.out.put x hx).1))
                clear hsl8
                have hgw : IntKind.u64.wrap ((g : Int) + 1) = (g : Int) + 1 := IntWalk.u64_in _ (by omega)
                go_wp2_with fail
                refine HWY.out.mono ?_
                rintro e w9 ⟨rfl, rfl⟩
                go_wp2_with fail
                refine HLD.out.mono ?_
                rintro e w9 ⟨gl, cl, rfl, hL⟩
                have d2b := (hL.below.cell (p := ⟨b, off + k * 3 + 2, none⟩) (Nat.lt_of_lt_of_le hbl HJ8.out.dev.below.size)).trans d2
                have HJ9 := Lib.hid (HJ8.out.take hL.below)
                have HT9 : Hid (TxAt w9 (.slice (some ⟨gl, 0, none⟩) (laidL Wl LL).length cl) (laidL Wl LL) (fun q => ((fun q => (X) q ∨ wr.heap.size ≤ q ∧ q < wa.heap.size) q ∨ w8.heap.size ≤ q ∧ q < w9.heap.size) ∧ q ≠ jb)) := Lib.hid (hL.at.weak (fun q h1 h2 => ⟨.inr h1, fun e => by have := HJ8.out.dev.lt q (e ▸ HJ8.out.own); omega⟩))
                clear hL d2
                have hwl9 : (laidL Wl LL).length = 80 := by rw [laidL_length]; exact HWL.out.1
                rw [laidL_length] at HT9
                have HW9 : Hid ((laidL Wl LL).length = 80 ∧ ∀ i, Out 80 fr n i → (laidL Wl LL).getD i ByteArray.empty = h8 i) := Lib.hid ⟨hwl9, py_laid HMP.out HWL.out.1 HWL.out.2 HO8.out⟩
                have hzl := zP_length LL
                have hLN : ((zP LL).length : Int) = ((zP LL).length : Int) := by first | rfl | (have := rfl; omega)
                obtain ⟨wv, hwv⟩ : ∃ wv : Int, 2 * ((zP LL).length : Int) + (places (zP LL).length : Nat) + 2 = wv := ⟨_, rfl⟩
                have hll60 : (zP LL).length ≤ 60 := hbp60
                have hplc : places (zP LL).length ≤ 60 := by unfold places; omega
                have hwq : ∀ W : World, Calls Try.prog 31 #[.int .i64 (((zP LL).length : Int))] W fun e w' => e = .returned (.int .i64 wv) ∧ w' = W := fun W => by
                  rw [← hLN, ← hwv]
                  exact writes_quiet _ (by omega) W
                have HWQ := Lib.hid hwq
                have hwj := fun (W : World) (hj : JS w (fun q => (fun q => (X) q ∨ wr.heap.size ≤ q ∧ q < wa.heap.size) q ∨ w8.heap.size ≤ q ∧ q < w9.heap.size) (w.heap.size + 1) jb 80 (600 * k + 600) fr n (g + 1) r s8 W) => writes_quiet2 hj
                have HWJ := Lib.hid hwj
                obtain ⟨dv, hdv⟩ : ∃ dv : Int, s8.writes - s.writes = dv := ⟨_, rfl⟩
                rw [← hzl] at wr2
                have hdv0 : 0 ≤ dv ∧ dv ≤ wv := by rw [← hdv, ← hwv]; push_cast at wr2; omega
                have hwv0 : 0 ≤ wv ∧ wv ≤ 20000 := by rw [← hwv]; omega
                have hd1 : IntKind.u64.wrap (s8.writes - s.writes) = dv := by rw [hdv]; exact IntWalk.u64_in _ (by omega)
                have hd2 : IntKind.u64.wrap wv = wv := IntWalk.u64_in _ (by omega)
                have hd3 : decide (dv > wv) = false := decide_eq_false (by omega)
                have hd3' : decide (wv < dv) = false := hd3
                clear hwl9 hwq hwj hdv hwv wr1 wr2 hplc hzl hLN hll60
                generalize s8.writes = b8 at *
                generalize s.writes = b0 at *
                go_wp2_with fail
                go_quiet (first | (go_at_call 25; exact Calls.quiet_of_same (HWJ.out _ (JS.drewn HJ9.out _))) | (go_at_call 31; exact Calls.quiet_of_same (HWQ.out _)))
                have HJ10 := Lib.hid (JS.drewn HJ9.out nq)
                have HT10 := Lib.hid (HT9.out.keep (W' := w9.drewN nq) (fun _ _ _ => rfl))
                have hsc := sectors_any (fr := fr) (n := n) HJ10.out.dev HJL8.out.hard (by decide) HJL8.out.dead (by omega) (by omega)
                rw [secL_congr (f' := h8) (fun i hi => HJL8.out.newest hi)] at hsc
                have HSC := Lib.hid hsc
                have eg : ((g + 1 : Nat) : Int) = (g : Int) + 1 := by push_cast; rfl
                have hjg := jgen_any HJ10.out
                rw [eg] at hjg
                have HJG := Lib.hid hjg
                have HEG := Lib.hid eg
                clear hsc eg hjg hd1 hd2 hd3 hd3'
                generalize w9.drewN nq = w9b at *
                go_wp2_with fail
                refine HJG.out.mono ?_
                rintro e w10 ⟨rfl, rfl⟩
                go_wp2_with fail
                refine HSC.out.mono ?_
                rintro e w10 ⟨v10, rfl, hnow⟩
                have hT11 := HT10.out.keep (fun k _ h => hnow.below.block k h)
                have HSM := Lib.hid (same04_yes (fr := fr) (n := n) hnow.at hT11 (by rw [secL_length, HW9.out.1]) (by omega) (by omega) (by rw [secL_length]; decide) (py_same HW9.out.1 HW9.out.2))
                have HT11 := Lib.hid hT11
                have HJ11 := Lib.hid (HJ10.out.of hnow.below)
                clear hnow hT11
                go_wp2_with fail
                refine HSM.out.mono ?_
                rintro e w12 ⟨rfl, hB12⟩
                have hfin : PyI w (w.heap.size + 1) fr n (k + 1) jb (g + 1) (.slice (some ⟨gl, 0, none⟩) Wl.length cl) w12 := ⟨_, _, h8, _, _, (HJ11.out.of hB12).mono (by omega), HJL8.out, HT11.out.keep (fun k _ h => hB12.block k h), HW9.out.1, HW9.out.2⟩
                have HF := Lib.hid hfin
                clear hB12 hfin
                go_wp2_with fail
                go_roundw
                case rel => exact ⟨k + 1, jb, g + 1, by omega, rfl, by rw [HEG.out], by go_num, by omega, HF.out⟩
                case measure => simp [intOf]; omega
              · have ez : (cc == 0) = false := by simpa using hz
                have ez' : (cc != 0) = true := by simpa using hz
                clear hz
                have HNO := Lib.hid (commit_no pl HJa.out HSL.out HMM.out (by omega) (by omega) (by have := HBP.out.1.1; omega) (fun x hx => by have := HBP.out.1.2 x hx; unfold maxLen; omega) cc HCC.out ez)
                go_wp2_with fail
                refine HNO.out.mono ?_
                rintro e w8 ⟨rfl, hB8⟩
                have HJ8 := Lib.hid (HJa.out.of hB8)
                have HT8 := Lib.hid (HTa.out.keep (fun k _ h => hB8.block k h))
                have d2 := ((HJ8.out.dev.below).cell (p := ⟨b, off + k * 3 + 2, none⟩) hbl).trans c2
                clear hB8
                have HWY := Lib.hid (HWH.out w8 HJ8.out.dev.below)
                go_wp2_with fail
                refine HWY.out.mono ?_
                rintro e w9 ⟨rfl, rfl⟩
                go_wp2_with fail
                refine (js_writes HJ8.out).mono ?_
                rintro e w9 ⟨rfl, rfl⟩
                have hsc := sectors_any (fr := fr) (n := n) HJ8.out.dev HJL.out.hard (by decide) HJL.out.dead (by omega) (by omega)
                rw [secL_congr (f' := h) (fun i hi => HJL.out.newest hi)] at hsc
                have HSC := Lib.hid hsc
                clear hsc
                go_wp2_with fail
                refine (jgen_any HJ8.out).mono ?_
                rintro e w9 ⟨rfl, rfl⟩
                go_wp2_with fail
                refine HSC.out.mono ?_
                rintro e w9 ⟨v9, rfl, hnow⟩
                have hT9 := HT8.out.keep (fun k _ h => hnow.below.block k h)
                have HSM := Lib.hid (same04_yes (fr := fr) (n := n) hnow.at hT9 (by rw [secL_length, HWL.out.1]) (by omega) (by omega) (by rw [secL_length]; decide) (py_same HWL.out.1 HWL.out.2))
                have HT9 := Lib.hid hT9
                have HJ9 := Lib.hid (HJ8.out.of hnow.below)
                clear hnow hT9
                go_wp2_with fail
                refine HSM.out.mono ?_
                rintro e w10 ⟨rfl, hB10⟩
                have hfin : PyI w (w.heap.size + 1) fr n (k + 1) jb g u14 w10 := ⟨_, _, h, _, Wl, (HJ9.out.of hB10).mono (by omega), HJL.out, HT9.out.keep (fun k _ h => hB10.block k h), HWL.out.1, HWL.out.2⟩
                have HF := Lib.hid hfin
                clear hB10 hfin
                go_wp2_with fail
                go_roundw
                case rel => exact ⟨k + 1, jb, g, by omega, rfl, rfl, by go_num, by omega, HF.out⟩
                case measure => simp [intOf]; omega

          · go_wp2_with fail
            refine (js_crash HJ.out (by omega) kp).mono ?_
            rintro e w4 ⟨rfl, h4', k4⟩
            have HJLc := Lib.hid (HJL.out.crash kp)
            have HOP := Lib.hid (open_JL (fr := fr) (n := n) h4'.dev h4'.ok HJLc.out h4 h256 hN80 (by decide) HMM.out)
            have HTc := Lib.hid (HT.out.keep (W' := w4) (fun q hy _ => k4 q (.inr hy.1)))
            have H4c := Lib.hid h4'
            clear h4' k4
            go_wp2_with fail
            refine HOP.out.mono ?_
            rintro e w5 ⟨rfl, h5, k5⟩
            have HT5 : Hid (TxAt w5 u14 Wl (fun q => (X q ∨ q = w4.heap.size) ∧ q ≠ w4.heap.size)) := Lib.hid ((HTc.out.keep (W' := w5) (fun q hy _ => k5 q (.inr hy.1))).weak (fun q h1 _ => ⟨.inl h1.1, fun e => by have := H4c.out.dev.lt q h1.1; omega⟩))
            have HJ5 := Lib.hid h5
            have d2 := (h5.dev.below.cell (p := ⟨b, off + k * 3 + 2, none⟩) hbl).trans c2
            clear h5 k5 HT HJ HJL HTc
            have HT := HT5
            have HJ := HJ5
            have HJL := HJLc
            clear HT5 HJ5 HJLc
            go_wp2_with fail
            refine (js_writes HJ.out).mono ?_
            rintro e w6 ⟨rfl, rfl⟩
            rcases hshape with hsh | ⟨ad, lc2, hsh⟩
            · have hl0 : pl.length = 0 := by injection hsh
              rw [hsh] at d2 c2 HWH HIN
              have HSL : Hid (SlP w (fun q => X q ∨ q = w4.heap.size) w5 (.slice none 0 0) pl) := Lib.hid ⟨none, 0, by rw [hl0], fun hp => by omega⟩
              have HJa := HJ
              have HTa := HT
              have HL0 := Lib.hid hl0
              clear hl0 hsh
              go_wp2_with fail
              by_cases hz : cc = 0
              · have ez : (cc == 0) = true := by simpa using hz
                have ez' : (cc != 0) = false := by simpa using hz
                obtain ⟨LL, hLL, mpl⟩ := may_of (HCC.out.trans hz) HMM.out hN80 (by decide)
                subst hLL
                have HMP := Lib.hid mpl
                clear hz mpl
                go_wp2_with fail
                refine (commit_JLw LL HJa.out HJL.out HSL.out HMM.out HMP.out (by omega) (by omega) (by omega)).mono ?_
                rintro e w8 ⟨s8, h8, rfl, hj8, jl8, ho8, kk8, wr1, wr2⟩
                have HJ8 := Lib.hid hj8
                have HT8 := Lib.hid (HTa.out.keep (W' := w8) (fun k hy _ => kk8 k (.inr hy)))
                have d2 := ((HJ8.out.dev.below).cell (p := ⟨b, off + k * 3 + 2, none⟩) hbl).trans c2
                have HJL8 := Lib.hid jl8
                have HO8 := Lib.hid ho8
                have HWY := Lib.hid (HWH.out w8 HJ8.out.dev.below)
                have hsl8 := HIN.out w8 HJ8.out.dev.below
                clear hj8 jl8 ho8 kk8
                have HLD := Lib.hid (laid_any (w0 := w) (X := fun _ => False) LL HT8.out (by rw [HWL.out.1]; decide) (by rw [HWL.out.1]; decide) hsl8 (fun k hk => by rcases hk with hk | hk; exact Nat.lt_of_lt_of_le hk HJ8.out.dev.below.size; exact hk.elim) (by have := HMP.out.fit; have := HMP.out.area; omega) (fun x hx => by rw [HWL.out.1]; exact (HMP.out.put x hx).1))
                clear hsl8
                have hgw : IntKind.u64.wrap ((g : Int) + 1) = (g : Int) + 1 := IntWalk.u64_in _ (by omega)
                go_wp2_with fail
                refine HWY.out.mono ?_
                rintro e w9 ⟨rfl, rfl⟩
                go_wp2_with fail
                refine HLD.out.mono ?_
                rintro e w9 ⟨gl, cl, rfl, hL⟩
                have d2b := (hL.below.cell (p := ⟨b, off + k * 3 + 2, none⟩) (Nat.lt_of_lt_of_le hbl HJ8.out.dev.below.size)).trans d2
                have HJ9 := Lib.hid (HJ8.out.take hL.below)
                have HT9 : Hid (TxAt w9 (.slice (some ⟨gl, 0, none⟩) (laidL Wl LL).length cl) (laidL Wl LL) (fun q => ((fun q => X q ∨ q = w4.heap.size) q ∨ w8.heap.size ≤ q ∧ q < w9.heap.size) ∧ q ≠ w4.heap.size)) := Lib.hid (hL.at.weak (fun q h1 h2 => ⟨.inr h1, fun e => by have := HJ8.out.dev.lt q (e ▸ HJ8.out.own); omega⟩))
                clear hL d2
                have hwl9 : (laidL Wl LL).length = 80 := by rw [laidL_length]; exact HWL.out.1
                rw [laidL_length] at HT9
                have HW9 : Hid ((laidL Wl LL).length = 80 ∧ ∀ i, Out 80 fr n i → (laidL Wl LL).getD i ByteArray.empty = h8 i) := Lib.hid ⟨hwl9, py_laid HMP.out HWL.out.1 HWL.out.2 HO8.out⟩
                have hzl := zP_length LL
                have hLN : ((zP LL).length : Int) = 0 := by first | rfl | (have := HL0.out; omega)
                obtain ⟨wv, hwv⟩ : ∃ wv : Int, 2 * ((zP LL).length : Int) + (places (zP LL).length : Nat) + 2 = wv := ⟨_, rfl⟩
                have hll60 : (zP LL).length ≤ 60 := hbp60
                have hplc : places (zP LL).length ≤ 60 := by unfold places; omega
                have hwq : ∀ W : World, Calls Try.prog 31 #[.int .i64 (0)] W fun e w' => e = .returned (.int .i64 wv) ∧ w' = W := fun W => by
                  rw [← hLN, ← hwv]
                  exact writes_quiet _ (by omega) W
                have HWQ := Lib.hid hwq
                have hwj := fun (W : World) (hj : JS w (fun q => (fun q => X q ∨ q = w4.heap.size) q ∨ w8.heap.size ≤ q ∧ q < w9.heap.size) (w.heap.size + 1) w4.heap.size 80 (600 * k + 600) fr n (g + 1) 0 s8 W) => writes_quiet2 hj
                have HWJ := Lib.hid hwj
                obtain ⟨dv, hdv⟩ : ∃ dv : Int, s8.writes - (crashS kp s).writes = dv := ⟨_, rfl⟩
                rw [← hzl] at wr2
                have hdv0 : 0 ≤ dv ∧ dv ≤ wv := by rw [← hdv, ← hwv]; push_cast at wr2; omega
                have hwv0 : 0 ≤ wv ∧ wv ≤ 20000 := by rw [← hwv]; omega
                have hd1 : IntKind.u64.wrap (s8.writes - (crashS kp s).writes) = dv := by rw [hdv]; exact IntWalk.u64_in _ (by omega)
                have hd2 : IntKind.u64.wrap wv = wv := IntWalk.u64_in _ (by omega)
                have hd3 : decide (dv > wv) = false := decide_eq_false (by omega)
                have hd3' : decide (wv < dv) = false := hd3
                clear hwl9 hwq hwj hdv hwv wr1 wr2 hplc hzl hLN hll60
                generalize s8.writes = b8 at *
                generalize (crashS kp s).writes = b0 at *
                go_wp2_with fail
                go_quiet (first | (go_at_call 25; exact Calls.quiet_of_same (HWJ.out _ (JS.drewn HJ9.out _))) | (go_at_call 31; exact Calls.quiet_of_same (HWQ.out _)))
                have HJ10 := Lib.hid (JS.drewn HJ9.out nq)
                have HT10 := Lib.hid (HT9.out.keep (W' := w9.drewN nq) (fun _ _ _ => rfl))
                have hsc := sectors_any (fr := fr) (n := n) HJ10.out.dev HJL8.out.hard (by decide) HJL8.out.dead (by omega) (by omega)
                rw [secL_congr (f' := h8) (fun i hi => HJL8.out.newest hi)] at hsc
                have HSC := Lib.hid hsc
                have eg : ((g + 1 : Nat) : Int) = (g : Int) + 1 := by push_cast; rfl
                have hjg := jgen_any HJ10.out
                rw [eg] at hjg
                have HJG := Lib.hid hjg
                have HEG := Lib.hid eg
                clear hsc eg hjg hd1 hd2 hd3 hd3'
                generalize w9.drewN nq = w9b at *
                go_wp2_with fail
                refine HJG.out.mono ?_
                rintro e w10 ⟨rfl, rfl⟩
                go_wp2_with fail
                refine HSC.out.mono ?_
                rintro e w10 ⟨v10, rfl, hnow⟩
                have hT11 := HT10.out.keep (fun k _ h => hnow.below.block k h)
                have HSM := Lib.hid (same04_yes (fr := fr) (n := n) hnow.at hT11 (by rw [secL_length, HW9.out.1]) (by omega) (by omega) (by rw [secL_length]; decide) (py_same HW9.out.1 HW9.out.2))
                have HT11 := Lib.hid hT11
                have HJ11 := Lib.hid (HJ10.out.of hnow.below)
                clear hnow hT11
                go_wp2_with fail
                refine HSM.out.mono ?_
                rintro e w12 ⟨rfl, hB12⟩
                have hfin : PyI w (w.heap.size + 1) fr n (k + 1) w4.heap.size (g + 1) (.slice (some ⟨gl, 0, none⟩) Wl.length cl) w12 := ⟨_, _, h8, _, _, (HJ11.out.of hB12).mono (by omega), HJL8.out, HT11.out.keep (fun k _ h => hB12.block k h), HW9.out.1, HW9.out.2⟩
                have HF := Lib.hid hfin
                clear hB12 hfin
                go_wp2_with fail
                go_roundw
                case rel => exact ⟨k + 1, w4.heap.size, g + 1, by omega, rfl, by rw [HEG.out], by go_num, by omega, HF.out⟩
                case measure => simp [intOf]; omega
              · have ez : (cc == 0) = false := by simpa using hz
                have ez' : (cc != 0) = true := by simpa using hz
                clear hz
                have HNO := Lib.hid (commit_no pl HJa.out HSL.out HMM.out (by omega) (by omega) (by have := HBP.out.1.1; omega) (fun x hx => by have := HBP.out.1.2 x hx; unfold maxLen; omega) cc HCC.out ez)
                go_wp2_with fail
                refine HNO.out.mono ?_
                rintro e w8 ⟨rfl, hB8⟩
                have HJ8 := Lib.hid (HJa.out.of hB8)
                have HT8 := Lib.hid (HTa.out.keep (fun k _ h => hB8.block k h))
                have d2 := ((HJ8.out.dev.below).cell (p := ⟨b, off + k * 3 + 2, none⟩) hbl).trans c2
                clear hB8
                have HWY := Lib.hid (HWH.out w8 HJ8.out.dev.below)
                go_wp2_with fail
                refine HWY.out.mono ?_
                rintro e w9 ⟨rfl, rfl⟩
                go_wp2_with fail
                refine (js_writes HJ8.out).mono ?_
                rintro e w9 ⟨rfl, rfl⟩
                have hsc := sectors_any (fr := fr) (n := n) HJ8.out.dev HJL.out.hard (by decide) HJL.out.dead (by omega) (by omega)
                rw [secL_congr (f' := h) (fun i hi => HJL.out.newest hi)] at hsc
                have HSC := Lib.hid hsc
                clear hsc
                go_wp2_with fail
                refine (jgen_any HJ8.out).mono ?_
                rintro e w9 ⟨rfl, rfl⟩
                go_wp2_with fail
                refine HSC.out.mono ?_
                rintro e w9 ⟨v9, rfl, hnow⟩
                have hT9 := HT8.out.keep (fun k _ h => hnow.below.block k h)
                have HSM := Lib.hid (same04_yes (fr := fr) (n := n) hnow.at hT9 (by rw [secL_length, HWL.out.1]) (by omega) (by omega) (by rw [secL_length]; decide) (py_same HWL.out.1 HWL.out.2))
                have HT9 := Lib.hid hT9
                have HJ9 := Lib.hid (HJ8.out.of hnow.below)
                clear hnow hT9
                go_wp2_with fail
                refine HSM.out.mono ?_
                rintro e w10 ⟨rfl, hB10⟩
                have hfin : PyI w (w.heap.size + 1) fr n (k + 1) w4.heap.size g u14 w10 := ⟨_, _, h, _, Wl, (HJ9.out.of hB10).mono (by omega), HJL.out, HT9.out.keep (fun k _ h => hB10.block k h), HWL.out.1, HWL.out.2⟩
                have HF := Lib.hid hfin
                clear hB10 hfin
                go_wp2_with fail
                go_roundw
                case rel => exact ⟨k + 1, w4.heap.size, g, by omega, rfl, rfl, by go_num, by omega, HF.out⟩
                case measure => simp [intOf]; omega
            · cases hsh
              have hnews2 : ∀ j u, (pcz pl)[j]? = some u → w5.cell? (Addr.add ad j) = some u := by
                intro j u hj2
                have hpos : 0 < pl.length := by
                  rcases Nat.eq_zero_or_pos pl.length with h0 | h0
                  · rw [List.eq_nil_of_length_eq_zero h0] at hj2; cases hj2
                  · exact h0
                obtain ⟨lb, lo, e2, hlb, hlc⟩ := HLV.out hpos
                cases e2
                have h1 := pcz_news (W := w) hlc j u hj2
                rw [Addr.add_lit] at h1 ⊢
                exact ((HJ.out.dev.below).cell (p := ⟨lb, lo + j, none⟩) (hlb.elim id (fun x => x.elim))).trans h1
              have hone := pcz_one pl
              have hplen := pcz_length pl
              have h63 : 0 + pl.length ≤ maxLen := by unfold maxLen; omega
              have hby : (0 + pl.length) * 24 ≤ 140737488355328 := by omega
              go_wp2_with (at_builtin; refine wpList_append_own _ rfl _ _ 52 rfl w5.heap.size 76 i0 (.agg #[.int .i64 0, .string ByteArray.empty]) 2 24 Try.underlying52 ii hz0 hz1 hz2 rfl (by decide) _ 0 [] rfl (World.ownsRow_nil _ _ _ _) ad pl.length lcap (pcz pl) rfl hplen hnews2 hone h63 hby (Nat.le_refl _) ?_; intro va wa hown hgrow _)
              rw [Nat.zero_add, List.nil_append] at hown
              have hBa : Below w5.heap.size w5 wa := (Below.refl _ _).grown hgrow (Nat.le_refl _) (fun k e => by cases e)
              have HJa := Lib.hid (HJ.out.take hBa)
              have HSL : Hid (SlP w (fun q => (fun q => X q ∨ q = w4.heap.size) q ∨ w5.heap.size ≤ q ∧ q < wa.heap.size) wa va pl) := Lib.hid ((slp_own hown).less (fun _ h => .inr h))
              have HTa : Hid (TxAt wa u14 Wl (fun q => ((fun q => X q ∨ q = w4.heap.size) q ∨ w5.heap.size ≤ q ∧ q < wa.heap.size) ∧ q ≠ w4.heap.size)) := Lib.hid ((HT.out.keep (fun k _ h => hBa.block k h)).weak (fun q h1 _ => ⟨.inl h1.1, h1.2⟩))
              clear hown hgrow hBa hnews2 hone hplen h63 hby
              by_cases hz : cc = 0
              · have ez : (cc == 0) = true := by simpa using hz
                have ez' : (cc != 0) = false := by simpa using hz
                obtain ⟨LL, hLL, mpl⟩ := may_of (HCC.out.trans hz) HMM.out hN80 (by decide)
                subst hLL
                have HMP := Lib.hid mpl
                clear hz mpl
                go_wp2_with fail
                refine (commit_JLw LL HJa.out HJL.out HSL.out HMM.out HMP.out (by omega) (by omega) (by omega)).mono ?_
                rintro e w8 ⟨s8, h8, rfl, hj8, jl8, ho8, kk8, wr1, wr2⟩
                have HJ8 := Lib.hid hj8
                have HT8 := Lib.hid (HTa.out.keep (W' := w8) (fun k hy _ => kk8 k (.inr hy)))
                have d2 := ((HJ8.out.dev.below).cell (p := ⟨b, off + k * 3 + 2, none⟩) hbl).trans c2
                have HJL8 := Lib.hid jl8
                have HO8 := Lib.hid ho8
                have HWY := Lib.hid (HWH.out w8 HJ8.out.dev.below)
                have hsl8 := HIN.out w8 HJ8.out.dev.below
                clear hj8 jl8 ho8 kk8
                have HLD := Lib.hid (laid_any (w0 := w) (X := fun _ => False) LL HT8.out (by rw [HWL.out.1]; decide) (by rw [HWL.out.1]; decide) hsl8 (fun k hk => by rcases hk with hk | hk; exact Nat.lt_of_lt_of_le hk HJ8.out.dev.below.size; exact hk.elim) (by have := HMP.out.fit; have := HMP.out.area; omega) (fun x hx => by rw [HWL.out.1]; exact (HMP.out.put x hx).1))
                clear hsl8
                have hgw : IntKind.u64.wrap ((g : Int) + 1) = (g : Int) + 1 := IntWalk.u64_in _ (by omega)
                go_wp2_with fail
                refine HWY.out.mono ?_
                rintro e w9 ⟨rfl, rfl⟩
                go_wp2_with fail
                refine HLD.out.mono ?_
                rintro e w9 ⟨gl, cl, rfl, hL⟩
                have d2b := (hL.below.cell (p := ⟨b, off + k * 3 + 2, none⟩) (Nat.lt_of_lt_of_le hbl HJ8.out.dev.below.size)).trans d2
                have HJ9 := Lib.hid (HJ8.out.take hL.below)
                have HT9 : Hid (TxAt w9 (.slice (some ⟨gl, 0, none⟩) (laidL Wl LL).length cl) (laidL Wl LL) (fun q => ((fun q => (fun q => X q ∨ q = w4.heap.size) q ∨ w5.heap.size ≤ q ∧ q < wa.heap.size) q ∨ w8.heap.size ≤ q ∧ q < w9.heap.size) ∧ q ≠ w4.heap.size)) := Lib.hid (hL.at.weak (fun q h1 h2 => ⟨.inr h1, fun e => by have := HJ8.out.dev.lt q (e ▸ HJ8.out.own); omega⟩))
                clear hL d2
                have hwl9 : (laidL Wl LL).length = 80 := by rw [laidL_length]; exact HWL.out.1
                rw [laidL_length] at HT9
                have HW9 : Hid ((laidL Wl LL).length = 80 ∧ ∀ i, Out 80 fr n i → (laidL Wl LL).getD i ByteArray.empty = h8 i) := Lib.hid ⟨hwl9, py_laid HMP.out HWL.out.1 HWL.out.2 HO8.out⟩
                have hzl := zP_length LL
                have hLN : ((zP LL).length : Int) = ((zP LL).length : Int) := by first | rfl | (have := rfl; omega)
                obtain ⟨wv, hwv⟩ : ∃ wv : Int, 2 * ((zP LL).length : Int) + (places (zP LL).length : Nat) + 2 = wv := ⟨_, rfl⟩
                have hll60 : (zP LL).length ≤ 60 := hbp60
                have hplc : places (zP LL).length ≤ 60 := by unfold places; omega
                have hwq : ∀ W : World, Calls Try.prog 31 #[.int .i64 (((zP LL).length : Int))] W fun e w' => e = .returned (.int .i64 wv) ∧ w' = W := fun W => by
                  rw [← hLN, ← hwv]
                  exact writes_quiet _ (by omega) W
                have HWQ := Lib.hid hwq
                have hwj := fun (W : World) (hj : JS w (fun q => (fun q => (fun q => X q ∨ q = w4.heap.size) q ∨ w5.heap.size ≤ q ∧ q < wa.heap.size) q ∨ w8.heap.size ≤ q ∧ q < w9.heap.size) (w.heap.size + 1) w4.heap.size 80 (600 * k + 600) fr n (g + 1) 0 s8 W) => writes_quiet2 hj
                have HWJ := Lib.hid hwj
                obtain ⟨dv, hdv⟩ : ∃ dv : Int, s8.writes - (crashS kp s).writes = dv := ⟨_, rfl⟩
                rw [← hzl] at wr2
                have hdv0 : 0 ≤ dv ∧ dv ≤ wv := by rw [← hdv, ← hwv]; push_cast at wr2; omega
                have hwv0 : 0 ≤ wv ∧ wv ≤ 20000 := by rw [← hwv]; omega
                have hd1 : IntKind.u64.wrap (s8.writes - (crashS kp s).writes) = dv := by rw [hdv]; exact IntWalk.u64_in _ (by omega)
                have hd2 : IntKind.u64.wrap wv = wv := IntWalk.u64_in _ (by omega)
                have hd3 : decide (dv > wv) = false := decide_eq_false (by omega)
                have hd3' : decide (wv < dv) = false := hd3
                clear hwl9 hwq hwj hdv hwv wr1 wr2 hplc hzl hLN hll60
                generalize s8.writes = b8 at *
                generalize (crashS kp s).writes = b0 at *
                go_wp2_with fail
                go_quiet (first | (go_at_call 25; exact Calls.quiet_of_same (HWJ.out _ (JS.drewn HJ9.out _))) | (go_at_call 31; exact Calls.quiet_of_same (HWQ.out _)))
                have HJ10 := Lib.hid (JS.drewn HJ9.out nq)
                have HT10 := Lib.hid (HT9.out.keep (W' := w9.drewN nq) (fun _ _ _ => rfl))
                have hsc := sectors_any (fr := fr) (n := n) HJ10.out.dev HJL8.out.hard (by decide) HJL8.out.dead (by omega) (by omega)
                rw [secL_congr (f' := h8) (fun i hi => HJL8.out.newest hi)] at hsc
                have HSC := Lib.hid hsc
                have eg : ((g + 1 : Nat) : Int) = (g : Int) + 1 := by push_cast; rfl
                have hjg := jgen_any HJ10.out
                rw [eg] at hjg
                have HJG := Lib.hid hjg
                have HEG := Lib.hid eg
                clear hsc eg hjg hd1 hd2 hd3 hd3'
                generalize w9.drewN nq = w9b at *
                go_wp2_with fail
                refine HJG.out.mono ?_
                rintro e w10 ⟨rfl, rfl⟩
                go_wp2_with fail
                refine HSC.out.mono ?_
                rintro e w10 ⟨v10, rfl, hnow⟩
                have hT11 := HT10.out.keep (fun k _ h => hnow.below.block k h)
                have HSM := Lib.hid (same04_yes (fr := fr) (n := n) hnow.at hT11 (by rw [secL_length, HW9.out.1]) (by omega) (by omega) (by rw [secL_length]; decide) (py_same HW9.out.1 HW9.out.2))
                have HT11 := Lib.hid hT11
                have HJ11 := Lib.hid (HJ10.out.of hnow.below)
                clear hnow hT11
                go_wp2_with fail
                refine HSM.out.mono ?_
                rintro e w12 ⟨rfl, hB12⟩
                have hfin : PyI w (w.heap.size + 1) fr n (k + 1) w4.heap.size (g + 1) (.slice (some ⟨gl, 0, none⟩) Wl.length cl) w12 := ⟨_, _, h8, _, _, (HJ11.out.of hB12).mono (by omega), HJL8.out, HT11.out.keep (fun k _ h => hB12.block k h), HW9.out.1, HW9.out.2⟩
                have HF := Lib.hid hfin
                clear hB12 hfin
                go_wp2_with fail
                go_roundw
                case rel => exact ⟨k + 1, w4.heap.size, g + 1, by omega, rfl, by rw [HEG.out], by go_num, by omega, HF.out⟩
                case measure => simp [intOf]; omega
              · have ez : (cc == 0) = false := by simpa using hz
                have ez' : (cc != 0) = true := by simpa using hz
                clear hz
                have HNO := Lib.hid (commit_no pl HJa.out HSL.out HMM.out (by omega) (by omega) (by have := HBP.out.1.1; omega) (fun x hx => by have := HBP.out.1.2 x hx; unfold maxLen; omega) cc HCC.out ez)
                go_wp2_with fail
                refine HNO.out.mono ?_
                rintro e w8 ⟨rfl, hB8⟩
                have HJ8 := Lib.hid (HJa.out.of hB8)
                have HT8 := Lib.hid (HTa.out.keep (fun k _ h => hB8.block k h))
                have d2 := ((HJ8.out.dev.below).cell (p := ⟨b, off + k * 3 + 2, none⟩) hbl).trans c2
                clear hB8
                have HWY := Lib.hid (HWH.out w8 HJ8.out.dev.below)
                go_wp2_with fail
                refine HWY.out.mono ?_
                rintro e w9 ⟨rfl, rfl⟩
                go_wp2_with fail
                refine (js_writes HJ8.out).mono ?_
                rintro e w9 ⟨rfl, rfl⟩
                have hsc := sectors_any (fr := fr) (n := n) HJ8.out.dev HJL.out.hard (by decide) HJL.out.dead (by omega) (by omega)
                rw [secL_congr (f' := h) (fun i hi => HJL.out.newest hi)] at hsc
                have HSC := Lib.hid hsc
                clear hsc
                go_wp2_with fail
                refine (jgen_any HJ8.out).mono ?_
                rintro e w9 ⟨rfl, rfl⟩
                go_wp2_with fail
                refine HSC.out.mono ?_
                rintro e w9 ⟨v9, rfl, hnow⟩
                have hT9 := HT8.out.keep (fun k _ h => hnow.below.block k h)
                have HSM := Lib.hid (same04_yes (fr := fr) (n := n) hnow.at hT9 (by rw [secL_length, HWL.out.1]) (by omega) (by omega) (by rw [secL_length]; decide) (py_same HWL.out.1 HWL.out.2))
                have HT9 := Lib.hid hT9
                have HJ9 := Lib.hid (HJ8.out.of hnow.below)
                clear hnow hT9
                go_wp2_with fail
                refine HSM.out.mono ?_
                rintro e w10 ⟨rfl, hB10⟩
                have hfin : PyI w (w.heap.size + 1) fr n (k + 1) w4.heap.size g u14 w10 := ⟨_, _, h, _, Wl, (HJ9.out.of hB10).mono (by omega), HJL.out, HT9.out.keep (fun k _ h => hB10.block k h), HWL.out.1, HWL.out.2⟩
                have HF := Lib.hid hfin
                clear hB10 hfin
                go_wp2_with fail
                go_roundw
                case rel => exact ⟨k + 1, w4.heap.size, g, by omega, rfl, rfl, by go_num, by omega, HF.out⟩
                case measure => simp [intOf]; omega

        · obtain rfl : k = ls.length := by omega
          obtain ⟨X, s, h, r, Wl, hj, -⟩ := hI
          have HJ := Lib.hid hj
          clear hj
          go_wp2_with fail
          refine (alive04_any _).mono ?_
          rintro e w9 ⟨rfl, hB⟩
          have H9 := Lib.hid (HJ.out.of hB)
          clear hB
          go_wp2_with fail
          go_ret
          exact ⟨rfl, H9.out.dev.below⟩
end Go.Proofs.Ytjjphcnoegaimaa
