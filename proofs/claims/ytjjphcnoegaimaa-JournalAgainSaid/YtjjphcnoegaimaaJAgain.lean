/- lunettelaw04.JournalAgain: the walk. -/
import Derived.Test.YtjjphcnoegaimaaOpenTear
import Derived.Test.YtjjphcnoegaimaaJAtomic
import Derived.Test.YtjjphcnoegaimaaJSure
import Derived.Test.YtjjphcnoegaimaaSlice
namespace Go.Proofs.Ytjjphcnoegaimaa
open Go.RowKit Go.Shelf Go.Maps
set_option maxRecDepth 20000
set_option linter.unusedVariables false

/-- What stands between two crashes. -/
structure AgI (w0 : World) (Y : Nat → Prop) (p : Nat) (l : Puts) (v1 v2 : Value) (h : Nat → ByteArray) (k : Nat) (W : World) : Prop where
  ex : ∃ (s : DS) (h' : Nat → ByteArray), DvO w0 Y p s W ∧ Okd 80 (1200 + 600 * k) s ∧ Clean s h' ∧ s.dead = false ∧ s.armed = false ∧ JX 80 1 40 1 l h h'
  was : TxAt W v1 (secL h 1 40 80) Y
  then_ : TxAt W v2 (laidL (secL h 1 40 80) l) Y
theorem AgI.below {w0 W : World} {Y : Nat → Prop} {p : Nat} {l : Puts} {v1 v2 : Value} {h : Nat → ByteArray} {k : Nat} (hI : AgI w0 Y p l v1 v2 h k W) : Below w0.heap.size w0 W := by
  obtain ⟨⟨s, h', d, -⟩, -, -⟩ := hI
  exact d.below
/-- Sectors' texts behind another transaction. -/
theorem same_more {h h2 : Nat → ByteArray} {l : Puts} (ml : MayP 80 1 40 l) (e : ∀ i, Out 80 1 40 i → h2 i = laid h l i) : ∀ i, i < (secL h2 1 40 80).length → ¬ (1 ≤ i ∧ i < 1 + 40) → (secL h2 1 40 80).getD i ByteArray.empty = (laidL (secL h 1 40 80) l).getD i ByteArray.empty := same_then ml e

section
variable {w0 w W W' : World} {Y : Nat → Prop} {p : Nat} {l : Puts} {v1 v2 : Value} {h : Nat → ByteArray} {k : Nat}
/-- A fuse, an Open, a crash. -/
theorem ag_fuse (hI : AgI w0 Y p l v1 v2 h k W) (hk : k ≤ 20) (f : Int) (hf : 0 ≤ f) (hf2 : f ≤ 1000) : Calls Try.prog 23 #[.pointer (some ⟨p, 0, none⟩), .int .i64 f] W fun e W' => e = .returned (.int .i64 0) ∧ (∃ (s : DS) (h' : Nat → ByteArray), DvO w0 Y p s W' ∧ Okd 80 (1200 + 600 * k) s ∧ Clean s h' ∧ JX 80 1 40 1 l h h') ∧ TxAt W' v1 (secL h 1 40 80) Y ∧ TxAt W' v2 (laidL (secL h 1 40 80) l) Y := by
  obtain ⟨⟨s, h', a, b, c, d, e, j⟩, t1, t2⟩ := hI
  refine (d_fuse a b f hf hf2).mono ?_
  rintro e W' ⟨rfl, h2, h3, hk⟩
  exact ⟨rfl, ⟨_, h', h2, h3, c.fuse f, j⟩, t1.keep (fun k hy _ => hk k (.inr hy)), t2.keep (fun k hy _ => hk k (.inr hy))⟩
theorem ag_open (hI : (∃ (s : DS) (h' : Nat → ByteArray), DvO w0 Y p s W ∧ Okd 80 (1200 + 600 * k) s ∧ Clean s h' ∧ JX 80 1 40 1 l h h') ∧ TxAt W v1 (secL h 1 40 80) Y ∧ TxAt W v2 (laidL (secL h 1 40 80) l) Y) (hh : readB (h 1) = (1, 0)) (ml : MayP 80 1 40 l) (hk : k ≤ 20) : Calls Try.prog 32 #[.pointer (some ⟨p, 0, none⟩), .int .i64 1, .int .i64 40] W fun e W' => ∃ (v : Value) (c : Int), e = .returned (.tuple #[v, .int .i64 c]) ∧ (∃ (s : DS), DvO w0 Y p s W' ∧ Okd 80 (1200 + 600 * (k + 1)) s ∧ ∀ keep, ∃ h2, Clean (crashS keep s) h2 ∧ JX 80 1 40 1 l h h2) ∧ TxAt W' v1 (secL h 1 40 80) Y ∧ TxAt W' v2 (laidL (secL h 1 40 80) l) Y := by
  obtain ⟨⟨s, h', a, b, c, j⟩, t1, t2⟩ := hI
  refine (open_tear (g := 1) (fr := 1) (n := 40) a b c hh ml j (by decide) (by decide) (by decide) most_40 (by omega)).mono ?_
  rintro e W' ⟨v, d, s2, rfl, h2, h3, h4, hk⟩
  exact ⟨v, d, rfl, ⟨s2, h2, h3, h4⟩, t1.keep (fun k hy _ => hk k (.inr hy)), t2.keep (fun k hy _ => hk k (.inr hy))⟩
theorem ag_crash (hI : (∃ (s : DS), DvO w0 Y p s W ∧ Okd 80 (1200 + 600 * (k + 1)) s ∧ ∀ keep, ∃ h2, Clean (crashS keep s) h2 ∧ JX 80 1 40 1 l h h2) ∧ TxAt W v1 (secL h 1 40 80) Y ∧ TxAt W v2 (laidL (secL h 1 40 80) l) Y) (hk : k ≤ 20) (keep : ByteArray) : Calls Try.prog 22 #[.pointer (some ⟨p, 0, none⟩), .string keep] W fun e W' => e = .returned (.int .i64 0) ∧ AgI w0 Y p l v1 v2 h (k + 1) W' := by
  obtain ⟨⟨s, a, b, c⟩, t1, t2⟩ := hI
  refine (d_crash a b (by omega) keep).mono ?_
  rintro e W' ⟨rfl, h2, h3, hk⟩
  obtain ⟨h2', c1, c2⟩ := c keep
  exact ⟨rfl, ⟨⟨_, h2', h2, h3, c1, rfl, rfl, c2⟩, t1.keep (fun k hy _ => hk k (.inr hy)), t2.keep (fun k hy _ => hk k (.inr hy))⟩⟩
end

set_option maxHeartbeats 16000000 in
theorem again_walk {w : World} (va : Value) (a : List PutZ) (vl : Value) (l : List PutZ) (f : Int) (vk : Value) (ks : List ByteArray) (vf : Value) (fs : List Int) (vm : Value) (mo : List PutZ) (ha : SlP w (fun _ => False) w va a) (hl : SlP w (fun _ => False) w vl l) (hf : (Lit.int .u8 f).wf = true) (hks : SlS w vk ks) (hfs : SlI .u8 w vf fs) (hmo : SlP w (fun _ => False) w vm mo) :
    Calls Try.prog 8 #[va, vl, .int .u8 f, vk, vf, vm] w fun e w' => e = .returned (.bool true) ∧ Below w.heap.size w w' := by
  have hn2 : 0 ≤ f ∧ f ≤ 255 := by simpa [Lit.wf, IntKind.min, IntKind.max, IntKind.signed, IntKind.bits] using hf
  obtain ⟨f, rfl⟩ := Int.eq_ofNat_of_zero_le hn2.1
  have hf3 : f ≤ 255 := by omega
  clear hn2 hf
  have hmay := may_any ha hl
  have hmay2 := may_any hmo (⟨none, 0, rfl, fun h => absurd h (by simp)⟩ : SlP w (fun _ => False) w (.slice none 0 0) [])
  have hw0 : IntKind.i64.wrap (f : Int) = (f : Int) := i64_sm (by omega) (by omega)
  have hll : ∃ ao cap, vl = .slice ao l.length cap := by obtain ⟨ao, cap, rfl, _⟩ := hl; exact ⟨_, _, rfl⟩
  obtain ⟨ao, cap, rfl⟩ := hll
  have hmm : ∃ ao cap, vm = .slice ao mo.length cap := by obtain ⟨ao, cap, rfl, _⟩ := hmo; exact ⟨_, _, rfl⟩
  obtain ⟨mao, mcap, rfl⟩ := hmm
  obtain ⟨⟨kao, kcap, rfl, hkv⟩, hkz⟩ := hks
  obtain ⟨⟨fao, fcap, rfl, hfv⟩, hfz⟩ := hfs
  have HKV := Lib.hid hkv
  have HFV := Lib.hid hfv
  have HFZ := Lib.hid hfz
  have HM := Lib.hid hmay
  have HM2 := Lib.hid hmay2
  have HA := Lib.hid ha
  have HL := Lib.hid hl
  have HMO := Lib.hid hmo
  clear hmay hmay2 ha hl hmo hkv hfv hfz hkz
  generalize ks.length = kn at *
  go_enter Try.func8, Try.ntmps8
  go_wp2_with fail
  refine HM.out.mono ?_
  rintro e w1 ⟨c, rfl, hc, rfl⟩
  cases c
  · clear hc
    go_wp2_with fail
    refine (alive04_any _).mono ?_
    rintro e w1 ⟨rfl, hB⟩
    go_wp2_with fail
    go_ret
    exact ⟨rfl, hB⟩
  · have HC1 := Lib.hid (hc rfl)
    clear hc
    go_wp2_with fail
    refine HM2.out.mono ?_
    rintro e w1 ⟨c, rfl, hc2, rfl⟩
    cases c
    · clear hc2
      go_wp2_with fail
      refine (alive04_any _).mono ?_
      rintro e w1 ⟨rfl, hB⟩
      go_wp2_with fail
      go_ret
      exact ⟨rfl, hB⟩
    · have HC2 := Lib.hid (hc2 rfl)
      clear hc2
      by_cases hk10 : 10 < kn
      · have e3 : decide ((kn : Int) > 10) = true := decide_eq_true (by omega)
        clear hk10
        go_wp2_with fail
        refine (alive04_any _).mono ?_
        rintro e w1 ⟨rfl, hB⟩
        go_wp2_with fail
        go_ret
        exact ⟨rfl, hB⟩
      · have e3 : decide ((kn : Int) > 10) = false := decide_eq_false (by omega)
        by_cases hf10 : 10 < fs.length
        · have e4 : decide ((fs.length : Int) > 10) = true := decide_eq_true (by omega)
          clear hf10
          go_wp2_with fail
          refine (alive04_any _).mono ?_
          rintro e w1 ⟨rfl, hB⟩
          go_wp2_with fail
          go_ret
          exact ⟨rfl, hB⟩
        · have e4 : decide ((fs.length : Int) > 10) = false := decide_eq_false (by omega)
          obtain ⟨-, hbr, hwa, hwl⟩ := HC1.out
          obtain ⟨hbm, -, hwm, -⟩ := HC2.out
          obtain ⟨A, hAz, ma⟩ := may_of hwa most_40 (by decide) (by decide)
          obtain ⟨L, hLz, ml⟩ := may_of hwl most_40 (by decide) (by decide)
          obtain ⟨M, hMz, mm⟩ := may_of hwm most_40 (by decide) (by decide)
          subst hAz hLz hMz
          have h60 : (zP L).length ≤ 60 := hbr.1
          have hwr := writes_any (zP L).length (by omega) w
          obtain ⟨q, hq⟩ : ∃ q : Nat, 2 * ((zP L).length : Int) + (places (zP L).length : Nat) + 2 + 2 = (q : Int) := ⟨2 * (zP L).length + places (zP L).length + 2 + 2, by push_cast; rfl⟩
          have hq0 : 0 < q := by omega
          have hq3 : q ≤ 1000 := by have : places (zP L).length ≤ 60 := by unfold places; omega
                                    omega
          have HT : Hid (∀ keep : ByteArray, Calls Try.prog 30 #[va, .slice ao (zP L).length cap, .int .i64 ((f : Int) % (q : Int)), .string keep] w fun e W' => ∃ v1 v2 Y h h' s', e = .returned (.tuple #[.pointer (some ⟨w.heap.size + 1, 0, none⟩), v1, v2, .bool true]) ∧ TnPost w w L v1 v2 W' Y h h' s') := Lib.hid (fun keep => torn_any (w0 := w) (W := w) (keep := keep) A L (Below.refl _ _) HA.out HL.out ma ml ((f : Int) % (q : Int)) (Int.emod_nonneg _ (by omega)) (by have := Int.emod_lt_of_pos (f : Int) (show (0 : Int) < q by omega); omega))
          have HWR := Lib.hid hwr
          have HML := Lib.hid ml
          have HMM := Lib.hid mm
          have HQ := Lib.hid hq
          have hq' : 2 * ((zP L).length : Int) + (places (zP L).length : Nat) + 2 ≤ 990 := by have : places (zP L).length ≤ 60 := by unfold places; omega
                                                                                              omega
          have hml : (zP M).length ≤ 60 := hbm.1
          have hml2 : M.length ≤ 4096 := by rw [zP_length] at hml; omega
          generalize (zP L).length = ln at *
          generalize (zP M).length = mn at *
          generalize ((places ln : Nat) : Int) = pl at *
          clear HC1 HC2 hbr hwa hwl hbm hwm ma ml mm hwr
          obtain ⟨wv, hwv⟩ : ∃ wv : Int, 2 * (ln : Int) + pl + 2 = wv := ⟨_, rfl⟩
          have hwv2 : wv + 2 = q := by rw [← hwv]; exact HQ.out
          rw [hwv] at HWR hq'
          clear hwv hq
          by_cases hks : 0 < kn
          · have e5 : decide ((kn : Int) > 0) = true := decide_eq_true (by omega)
            have e5' : decide (0 < kn) = true := decide_eq_true hks
            obtain ⟨kb, ko, rfl, hkb, hkc⟩ := HKV.out hks
            have hk0 : w.cell? ⟨kb, ko, none⟩ = some (.string (ks.getD 0 ByteArray.empty)) := hkc 0 hks
            generalize ks.getD 0 ByteArray.empty = keep0 at hk0
            clear hkc
            go_wp2_with fail
            refine HWR.out.mono ?_
            rintro e w1 ⟨rfl, rfl⟩
            go_wp2_with fail
            refine (HT.out keep0).mono ?_
            rintro e w2 ⟨v1, v2, Y, h, h', s', rfl, ht⟩
            have hI0 : AgI w Y (w.heap.size + 1) L v1 v2 h 0 w2 := ⟨⟨s', h', ht.dev, ht.ok, ht.clean, ht.dead, ht.armed, ht.j⟩, ht.was, ht.then_⟩
            have HH := Lib.hid ht.head
            have HI0 := Lib.hid hI0
            clear ht hI0
            go_wp2_with fail
            go_loopw [18, 19] (fun v18 _ wr => ∃ k : Nat, k ≤ fs.length ∧ v18 = .int .i64 k ∧ AgI w Y (w.heap.size + 1) L v1 v2 h k wr) (fun v18 _ _ => fs.length - (intOf v18).toNat)
            case atStart => exact ⟨0, Nat.zero_le _, rfl, HI0.out⟩
            case round =>
              obtain ⟨k, hk, rfl, hI⟩ := hrel
              by_cases hlt : k < fs.length
              · obtain ⟨fb, fo, rfl, hfb, hfc⟩ := HFV.out (by omega)
                have hcf := hfc k hlt
                have hwf : (Lit.int .u8 (fs.getD k 0)).wf = true := HFZ.out _ (by rw [List.getD_eq_getElem?_getD, List.getElem?_eq_getElem hlt]; exact List.getElem_mem hlt)
                have hx2 : 0 ≤ fs.getD k 0 ∧ fs.getD k 0 ≤ 255 := by simpa [Lit.wf, IntKind.min, IntKind.max, IntKind.signed, IntKind.bits] using hwf
                have hcfr := (hI.below.cell (p := ⟨fb, fo + k, none⟩) hfb).trans hcf
                generalize fs.getD k 0 = fx at *
                have hwx : IntKind.i64.wrap fx = fx := i64_sm (by omega) (by omega)
                have HI := Lib.hid hI
                clear hI hfc hcf hwf
                go_wp2_with fail
                refine (ag_fuse HI.out (by omega) (fx % 45) (by omega) (by omega)).mono ?_
                rintro e w4 ⟨rfl, hI4⟩
                have HI4 := Lib.hid hI4
                clear hI4
                go_wp2_with fail
                refine (ag_open HI4.out HH.out HML.out (by omega)).mono ?_
                rintro e w5 ⟨vo, co, rfl, hI5⟩
                have hB5 : Below w.heap.size w w5 := by obtain ⟨⟨s5, d5, -, -⟩, -, -⟩ := hI5; exact d5.below
                have HI5 := Lib.hid hI5
                clear hI5
                have hsw : IntKind.i64.wrap ((k : Int) + 1) = (k : Int) + 1 := i64_sm (by omega) (by omega)
                by_cases hk5 : k + 1 < kn
                · have e5 : decide ((k : Int) + 1 < (kn : Int)) = true := decide_eq_true (by omega)
                  obtain ⟨kb, ko, ek, hkb, hkc⟩ := HKV.out (by omega)
                  cases ek
                  have hck := (hB5.cell (p := ⟨kb, ko + (k + 1), none⟩) hkb).trans (hkc (k + 1) hk5)
                  have hck2 : w5.cell? ⟨kb, ko + k + 1, none⟩ = some (.string (ks.getD (k + 1) ByteArray.empty)) := hck
                  have htn : ((k : Int) + 1).toNat = k + 1 := by omega
                  generalize ks.getD (k + 1) ByteArray.empty = kp at *
                  have HB5 := Lib.hid hB5
                  have hk6 : (k : Int) + 1 < (kn : Int) := by omega
                  have hk7 : 0 ≤ (k : Int) + 1 := by omega
                  clear hkc hB5 hk5
                  go_wp2_with fail
                  refine (ag_crash HI5.out (by omega) kp).mono ?_
                  rintro e w6 ⟨rfl, hI6⟩
                  go_wp2_with fail
                  go_roundw
                  case rel => exact ⟨k + 1, by omega, by go_num, hI6⟩
                  case measure => simp [intOf]; omega
                · have e5 : decide ((k : Int) + 1 < (kn : Int)) = false := decide_eq_false (by omega)
                  have HB5 := Lib.hid hB5
                  clear hB5 hk5
                  go_wp2_with fail
                  refine (ag_crash HI5.out (by omega) ⟨#[]⟩).mono ?_
                  rintro e w6 ⟨rfl, hI6⟩
                  go_wp2_with fail
                  go_roundw
                  case rel => exact ⟨k + 1, by omega, by go_num, hI6⟩
                  case measure => simp [intOf]; omega
              · obtain rfl : k = fs.length := by omega
                obtain ⟨⟨sa, ha, d3, o3, c3, dd3, aa3, j3⟩, hwas, hthen⟩ := hI
                obtain ⟨wa, rfl⟩ : ∃ wa : World, wa = wr := ⟨_, rfl⟩
                have HOP := Lib.hid (open_torn (g := 1) d3 o3 dd3 aa3 c3 HH.out HML.out j3 (by decide) (by decide) (by decide) most_40 (by omega))
                have HWA := Lib.hid hwas
                have HTH := Lib.hid hthen
                clear d3 o3 c3 dd3 aa3 j3 hwas hthen
                go_wp2_with fail
                refine HOP.out.mono ?_
                rintro e wb ⟨g2, r2, s2, h2, rfl, hj3, hjl, hk3, hcase⟩
                have HWB := Lib.hid (HWA.out.keep (W' := wb) (fun k hy _ => hk3 k (.inr hy)))
                have HTB := Lib.hid (HTH.out.keep (W' := wb) (fun k hy _ => hk3 k (.inr hy)))
                have hsc := sectors_any (fr := 1) (n := 40) hj3.dev hjl.hard (by decide) hjl.dead (by decide) (by decide)
                rw [secL_congr (f' := h2) (fun i hi => hjl.newest hi)] at hsc
                have HSC := Lib.hid hsc
                have HJ4 := Lib.hid hj3
                have HJL := Lib.hid hjl
                clear hsc hj3 hjl hk3
                go_wp2_with fail
                refine HSC.out.mono ?_
                rintro e wc ⟨vn, rfl, hnow⟩
                have hwas := HWB.out.keep (fun k _ h => hnow.below.block k h)
                have hthen := HTB.out.keep (fun k _ h => hnow.below.block k h)
                rcases hcase with ⟨rfl, hcase⟩ | ⟨rfl, hcase⟩
                · have hsm := same04_yes (fr := 1) (n := 40) hnow.at hwas (by rw [secL_length, secL_length]) (by decide) (by decide) (by rw [secL_length]; decide) (same_was hcase)
                  have HSM := Lib.hid hsm
                  have hTn := (hnow.at.weak (fun k h1 h2 => ⟨h1, h2⟩) : TxAt wc vn (secL h2 1 40 80) (fun k => wb.heap.size ≤ k ∧ k < wc.heap.size))
                  have HTn := Lib.hid hTn
                  have HJ5 := Lib.hid (HJ4.out.take hnow.below)
                  clear hsm hnow hTn hcase
                  go_wp2_with fail
                  refine (jgen_any HJ5.out).mono ?_
                  rintro e w6 ⟨rfl, rfl⟩
                  go_wp2_with fail
                  refine HSM.out.mono ?_
                  rintro e wd ⟨rfl, hB6⟩
                  have HJ6 := Lib.hid (HJ5.out.of hB6)
                  have HTd := Lib.hid (HTn.out.keep (fun k _ h => hB6.block k h))
                  have hwde := hB6.size
                  clear hB6
                  have HOP2 := Lib.hid (open_JL (n := 40) HJ6.out.dev HJ6.out.ok HJL.out (by decide) (by decide) (by decide) (by decide) most_40)
                  go_wp2_with fail
                  refine HOP2.out.mono ?_
                  rintro e we ⟨rfl, h8, k8⟩
                  have HTe := Lib.hid (HTd.out.keep (W' := we) (fun k hy _ => k8 k (.inr (.inr hy))))
                  have HJ8 := Lib.hid h8
                  clear h8 k8
                  go_wp2_with fail
                  refine (jgen_any HJ8.out).mono ?_
                  rintro e w9 ⟨rfl, rfl⟩
                  go_wp2_with fail
                  refine (jrec_any HJ8.out).mono ?_
                  rintro e w9 ⟨rfl, rfl⟩
                  have hsc2 := sectors_any (fr := 1) (n := 40) HJ8.out.dev HJL.out.hard (by decide) HJL.out.dead (by decide) (by decide)
                  rw [secL_congr (f' := h2) (fun i hi => HJL.out.newest hi)] at hsc2
                  have HSC2 := Lib.hid hsc2
                  clear hsc2
                  go_wp2_with fail
                  refine HSC2.out.mono ?_
                  rintro e wf ⟨vn2, rfl, hnow2⟩
                  have hTf := HTe.out.keep (fun k _ h => hnow2.below.block k h)
                  have HSM2 := Lib.hid (same04_yes (fr := 1) (n := 40) hnow2.at hTf (by rw [secL_length]) (by decide) (by decide) (by rw [secL_length]; decide) (fun i _ _ => rfl))
                  have HTf := Lib.hid hTf
                  have HJ9 := Lib.hid (HJ8.out.of hnow2.below)
                  clear hnow2 hTf
                  go_wp2_with fail
                  refine HSM2.out.mono ?_
                  rintro e wg ⟨rfl, hB7⟩
                  have HJ10 := Lib.hid (HJ9.out.of hB7)
                  have HTg := Lib.hid (HTf.out.keep (fun k _ h => hB7.block k h))
                  clear hB7
                  have hmg := (HMO.out.kb (Kb.of_below HJ10.out.dev.below (fun k hk => by rcases hk with hk | hk; exact hk; exact hk.elim))).less (Y := fun k => ((Y k ∨ k = wa.heap.size) ∨ wb.heap.size ≤ k ∧ k < wc.heap.size) ∨ k = wd.heap.size) (fun _ h => h.elim)
                  have HCM := Lib.hid (commit_JL M HJ10.out HJL.out hmg most_40 HMM.out (by decide) (by decide) (by omega))
                  clear hmg
                  go_wp2_with fail
                  refine HCM.out.mono ?_
                  rintro e wh ⟨s4, h4, rfl, hj11, jl4, ho4, kk4⟩
                  have HTh := Lib.hid (HTg.out.keep (W' := wh) (fun k hy _ => kk4 k (.inr ⟨.inl (.inr hy), by omega⟩)))
                  have hsc3 := sectors_any (fr := 1) (n := 40) hj11.dev jl4.hard (by decide) jl4.dead (by decide) (by decide)
                  rw [secL_congr (f' := h4) (fun i hi => jl4.newest hi)] at hsc3
                  have HSC3 := Lib.hid hsc3
                  have HJ11 := Lib.hid hj11
                  have HO4 := Lib.hid ho4
                  clear hsc3 hj11 jl4 ho4 kk4
                  go_wp2_with fail
                  refine HSC3.out.mono ?_
                  rintro e wi ⟨vn3, rfl, hnow3⟩
                  have HJ12 := Lib.hid (HJ11.out.of hnow3.below)
                  have HTi := Lib.hid (HTh.out.keep (fun k _ h => hnow3.below.block k h))
                  have HT3 := Lib.hid hnow3.at
                  clear hnow3
                  have hmi := HMO.out.kb (Kb.of_below HJ12.out.dev.below (fun k hk => by rcases hk with hk | hk; exact hk; exact hk.elim))
                  have HLD := Lib.hid (laid_any M HTi.out (by rw [secL_length]; decide) (by rw [secL_length]; decide) hmi (fun k hk => by rcases hk with hk | hk; exact Nat.lt_of_lt_of_le hk HJ12.out.dev.below.size; exact hk.elim) hml2 (fun x hx => by rw [secL_length]; exact (HMM.out.put x hx).1))
                  clear hmi
                  go_wp2_with fail
                  refine HLD.out.mono ?_
                  rintro e wj ⟨gl, cl, rfl, hL⟩
                  have hT3j := HT3.out.keep (fun k _ h => hL.below.block k h)
                  have hLat := hL.at
                  rw [laidL_length] at hLat
                  have HSM3 := Lib.hid (same04_yes (fr := 1) (n := 40) hT3j hLat (by rw [secL_length, laidL_length, secL_length]) (by decide) (by decide) (by rw [secL_length]; decide) (same_more HMM.out HO4.out))
                  have HJ13 := Lib.hid (HJ12.out.of hL.below)
                  clear hT3j hLat hL
                  go_wp2_with fail
                  refine HSM3.out.mono ?_
                  rintro e wk ⟨rfl, hB8⟩
                  have HJ14 := Lib.hid (HJ13.out.of hB8)
                  clear hB8
                  go_wp2_with fail
                  refine (alive04_any _).mono ?_
                  rintro e wl ⟨rfl, hB9⟩
                  have HJ15 := Lib.hid (HJ14.out.of hB9)
                  clear hB9
                  go_wp2_with fail
                  go_ret
                  exact ⟨rfl, HJ15.out.dev.below⟩
                · have hsm := same04_yes (fr := 1) (n := 40) hnow.at hthen (by rw [secL_length, laidL_length, secL_length]) (by decide) (by decide) (by rw [secL_length]; decide) (same_then HML.out hcase)
                  have HSM := Lib.hid hsm
                  have hTn := (hnow.at.weak (fun k h1 h2 => ⟨h1, h2⟩) : TxAt wc vn (secL h2 1 40 80) (fun k => wb.heap.size ≤ k ∧ k < wc.heap.size))
                  have HTn := Lib.hid hTn
                  have HJ5 := Lib.hid (HJ4.out.take hnow.below)
                  clear hsm hnow hTn hcase
                  go_wp2_with fail
                  refine (jgen_any HJ5.out).mono ?_
                  rintro e w6 ⟨rfl, rfl⟩
                  go_wp2_with fail
                  refine HSM.out.mono ?_
                  rintro e wd ⟨rfl, hB6⟩
                  have HJ6 := Lib.hid (HJ5.out.of hB6)
                  have HTd := Lib.hid (HTn.out.keep (fun k _ h => hB6.block k h))
                  have hwde := hB6.size
                  clear hB6
                  have HOP2 := Lib.hid (open_JL (n := 40) HJ6.out.dev HJ6.out.ok HJL.out (by decide) (by decide) (by decide) (by decide) most_40)
                  go_wp2_with fail
                  refine HOP2.out.mono ?_
                  rintro e we ⟨rfl, h8, k8⟩
                  have HTe := Lib.hid (HTd.out.keep (W' := we) (fun k hy _ => k8 k (.inr (.inr hy))))
                  have HJ8 := Lib.hid h8
                  clear h8 k8
                  go_wp2_with fail
                  refine (jgen_any HJ8.out).mono ?_
                  rintro e w9 ⟨rfl, rfl⟩
                  go_wp2_with fail
                  refine (jrec_any HJ8.out).mono ?_
                  rintro e w9 ⟨rfl, rfl⟩
                  have hsc2 := sectors_any (fr := 1) (n := 40) HJ8.out.dev HJL.out.hard (by decide) HJL.out.dead (by decide) (by decide)
                  rw [secL_congr (f' := h2) (fun i hi => HJL.out.newest hi)] at hsc2
                  have HSC2 := Lib.hid hsc2
                  clear hsc2
                  go_wp2_with fail
                  refine HSC2.out.mono ?_
                  rintro e wf ⟨vn2, rfl, hnow2⟩
                  have hTf := HTe.out.keep (fun k _ h => hnow2.below.block k h)
                  have HSM2 := Lib.hid (same04_yes (fr := 1) (n := 40) hnow2.at hTf (by rw [secL_length]) (by decide) (by decide) (by rw [secL_length]; decide) (fun i _ _ => rfl))
                  have HTf := Lib.hid hTf
                  have HJ9 := Lib.hid (HJ8.out.of hnow2.below)
                  clear hnow2 hTf
                  go_wp2_with fail
                  refine HSM2.out.mono ?_
                  rintro e wg ⟨rfl, hB7⟩
                  have HJ10 := Lib.hid (HJ9.out.of hB7)
                  have HTg := Lib.hid (HTf.out.keep (fun k _ h => hB7.block k h))
                  clear hB7
                  have hmg := (HMO.out.kb (Kb.of_below HJ10.out.dev.below (fun k hk => by rcases hk with hk | hk; exact hk; exact hk.elim))).less (Y := fun k => ((Y k ∨ k = wa.heap.size) ∨ wb.heap.size ≤ k ∧ k < wc.heap.size) ∨ k = wd.heap.size) (fun _ h => h.elim)
                  have HCM := Lib.hid (commit_JL M HJ10.out HJL.out hmg most_40 HMM.out (by decide) (by decide) (by omega))
                  clear hmg
                  go_wp2_with fail
                  refine HCM.out.mono ?_
                  rintro e wh ⟨s4, h4, rfl, hj11, jl4, ho4, kk4⟩
                  have HTh := Lib.hid (HTg.out.keep (W' := wh) (fun k hy _ => kk4 k (.inr ⟨.inl (.inr hy), by omega⟩)))
                  have hsc3 := sectors_any (fr := 1) (n := 40) hj11.dev jl4.hard (by decide) jl4.dead (by decide) (by decide)
                  rw [secL_congr (f' := h4) (fun i hi => jl4.newest hi)] at hsc3
                  have HSC3 := Lib.hid hsc3
                  have HJ11 := Lib.hid hj11
                  have HO4 := Lib.hid ho4
                  clear hsc3 hj11 jl4 ho4 kk4
                  go_wp2_with fail
                  refine HSC3.out.mono ?_
                  rintro e wi ⟨vn3, rfl, hnow3⟩
                  have HJ12 := Lib.hid (HJ11.out.of hnow3.below)
                  have HTi := Lib.hid (HTh.out.keep (fun k _ h => hnow3.below.block k h))
                  have HT3 := Lib.hid hnow3.at
                  clear hnow3
                  have hmi := HMO.out.kb (Kb.of_below HJ12.out.dev.below (fun k hk => by rcases hk with hk | hk; exact hk; exact hk.elim))
                  have HLD := Lib.hid (laid_any M HTi.out (by rw [secL_length]; decide) (by rw [secL_length]; decide) hmi (fun k hk => by rcases hk with hk | hk; exact Nat.lt_of_lt_of_le hk HJ12.out.dev.below.size; exact hk.elim) hml2 (fun x hx => by rw [secL_length]; exact (HMM.out.put x hx).1))
                  clear hmi
                  go_wp2_with fail
                  refine HLD.out.mono ?_
                  rintro e wj ⟨gl, cl, rfl, hL⟩
                  have hT3j := HT3.out.keep (fun k _ h => hL.below.block k h)
                  have hLat := hL.at
                  rw [laidL_length] at hLat
                  have HSM3 := Lib.hid (same04_yes (fr := 1) (n := 40) hT3j hLat (by rw [secL_length, laidL_length, secL_length]) (by decide) (by decide) (by rw [secL_length]; decide) (same_more HMM.out HO4.out))
                  have HJ13 := Lib.hid (HJ12.out.of hL.below)
                  clear hT3j hLat hL
                  go_wp2_with fail
                  refine HSM3.out.mono ?_
                  rintro e wk ⟨rfl, hB8⟩
                  have HJ14 := Lib.hid (HJ13.out.of hB8)
                  clear hB8
                  go_wp2_with fail
                  refine (alive04_any _).mono ?_
                  rintro e wl ⟨rfl, hB9⟩
                  have HJ15 := Lib.hid (HJ14.out.of hB9)
                  clear hB9
                  go_wp2_with fail
                  go_ret
                  exact ⟨rfl, HJ15.out.dev.below⟩
          · have e5 : decide ((kn : Int) > 0) = false := decide_eq_false (by omega)
            have e5' : decide (0 < kn) = false := decide_eq_false hks
            clear hks
            go_wp2_with fail
            refine HWR.out.mono ?_
            rintro e w1 ⟨rfl, rfl⟩
            go_wp2_with fail
            refine (HT.out ⟨#[]⟩).mono ?_
            rintro e w2 ⟨v1, v2, Y, h, h', s', rfl, ht⟩
            have hI0 : AgI w Y (w.heap.size + 1) L v1 v2 h 0 w2 := ⟨⟨s', h', ht.dev, ht.ok, ht.clean, ht.dead, ht.armed, ht.j⟩, ht.was, ht.then_⟩
            have HH := Lib.hid ht.head
            have HI0 := Lib.hid hI0
            clear ht hI0
            go_wp2_with fail
            go_loopw [18, 19] (fun v18 _ wr => ∃ k : Nat, k ≤ fs.length ∧ v18 = .int .i64 k ∧ AgI w Y (w.heap.size + 1) L v1 v2 h k wr) (fun v18 _ _ => fs.length - (intOf v18).toNat)
            case atStart => exact ⟨0, Nat.zero_le _, rfl, HI0.out⟩
            case round =>
              obtain ⟨k, hk, rfl, hI⟩ := hrel
              by_cases hlt : k < fs.length
              · obtain ⟨fb, fo, rfl, hfb, hfc⟩ := HFV.out (by omega)
                have hcf := hfc k hlt
                have hwf : (Lit.int .u8 (fs.getD k 0)).wf = true := HFZ.out _ (by rw [List.getD_eq_getElem?_getD, List.getElem?_eq_getElem hlt]; exact List.getElem_mem hlt)
                have hx2 : 0 ≤ fs.getD k 0 ∧ fs.getD k 0 ≤ 255 := by simpa [Lit.wf, IntKind.min, IntKind.max, IntKind.signed, IntKind.bits] using hwf
                have hcfr := (hI.below.cell (p := ⟨fb, fo + k, none⟩) hfb).trans hcf
                generalize fs.getD k 0 = fx at *
                have hwx : IntKind.i64.wrap fx = fx := i64_sm (by omega) (by omega)
                have HI := Lib.hid hI
                clear hI hfc hcf hwf
                go_wp2_with fail
                refine (ag_fuse HI.out (by omega) (fx % 45) (by omega) (by omega)).mono ?_
                rintro e w4 ⟨rfl, hI4⟩
                have HI4 := Lib.hid hI4
                clear hI4
                go_wp2_with fail
                refine (ag_open HI4.out HH.out HML.out (by omega)).mono ?_
                rintro e w5 ⟨vo, co, rfl, hI5⟩
                have hB5 : Below w.heap.size w w5 := by obtain ⟨⟨s5, d5, -, -⟩, -, -⟩ := hI5; exact d5.below
                have HI5 := Lib.hid hI5
                clear hI5
                have hsw : IntKind.i64.wrap ((k : Int) + 1) = (k : Int) + 1 := i64_sm (by omega) (by omega)
                by_cases hk5 : k + 1 < kn
                · have e5 : decide ((k : Int) + 1 < (kn : Int)) = true := decide_eq_true (by omega)
                  obtain ⟨kb, ko, ek, hkb, hkc⟩ := HKV.out (by omega)
                  cases ek
                  have hck := (hB5.cell (p := ⟨kb, ko + (k + 1), none⟩) hkb).trans (hkc (k + 1) hk5)
                  have hck2 : w5.cell? ⟨kb, ko + k + 1, none⟩ = some (.string (ks.getD (k + 1) ByteArray.empty)) := hck
                  have htn : ((k : Int) + 1).toNat = k + 1 := by omega
                  generalize ks.getD (k + 1) ByteArray.empty = kp at *
                  have HB5 := Lib.hid hB5
                  have hk6 : (k : Int) + 1 < (kn : Int) := by omega
                  have hk7 : 0 ≤ (k : Int) + 1 := by omega
                  clear hkc hB5 hk5
                  go_wp2_with fail
                  refine (ag_crash HI5.out (by omega) kp).mono ?_
                  rintro e w6 ⟨rfl, hI6⟩
                  go_wp2_with fail
                  go_roundw
                  case rel => exact ⟨k + 1, by omega, by go_num, hI6⟩
                  case measure => simp [intOf]; omega
                · have e5 : decide ((k : Int) + 1 < (kn : Int)) = false := decide_eq_false (by omega)
                  have HB5 := Lib.hid hB5
                  clear hB5 hk5
                  go_wp2_with fail
                  refine (ag_crash HI5.out (by omega) ⟨#[]⟩).mono ?_
                  rintro e w6 ⟨rfl, hI6⟩
                  go_wp2_with fail
                  go_roundw
                  case rel => exact ⟨k + 1, by omega, by go_num, hI6⟩
                  case measure => simp [intOf]; omega
              · obtain rfl : k = fs.length := by omega
                obtain ⟨⟨sa, ha, d3, o3, c3, dd3, aa3, j3⟩, hwas, hthen⟩ := hI
                obtain ⟨wa, rfl⟩ : ∃ wa : World, wa = wr := ⟨_, rfl⟩
                have HOP := Lib.hid (open_torn (g := 1) d3 o3 dd3 aa3 c3 HH.out HML.out j3 (by decide) (by decide) (by decide) most_40 (by omega))
                have HWA := Lib.hid hwas
                have HTH := Lib.hid hthen
                clear d3 o3 c3 dd3 aa3 j3 hwas hthen
                go_wp2_with fail
                refine HOP.out.mono ?_
                rintro e wb ⟨g2, r2, s2, h2, rfl, hj3, hjl, hk3, hcase⟩
                have HWB := Lib.hid (HWA.out.keep (W' := wb) (fun k hy _ => hk3 k (.inr hy)))
                have HTB := Lib.hid (HTH.out.keep (W' := wb) (fun k hy _ => hk3 k (.inr hy)))
                have hsc := sectors_any (fr := 1) (n := 40) hj3.dev hjl.hard (by decide) hjl.dead (by decide) (by decide)
                rw [secL_congr (f' := h2) (fun i hi => hjl.newest hi)] at hsc
                have HSC := Lib.hid hsc
                have HJ4 := Lib.hid hj3
                have HJL := Lib.hid hjl
                clear hsc hj3 hjl hk3
                go_wp2_with fail
                refine HSC.out.mono ?_
                rintro e wc ⟨vn, rfl, hnow⟩
                have hwas := HWB.out.keep (fun k _ h => hnow.below.block k h)
                have hthen := HTB.out.keep (fun k _ h => hnow.below.block k h)
                rcases hcase with ⟨rfl, hcase⟩ | ⟨rfl, hcase⟩
                · have hsm := same04_yes (fr := 1) (n := 40) hnow.at hwas (by rw [secL_length, secL_length]) (by decide) (by decide) (by rw [secL_length]; decide) (same_was hcase)
                  have HSM := Lib.hid hsm
                  have hTn := (hnow.at.weak (fun k h1 h2 => ⟨h1, h2⟩) : TxAt wc vn (secL h2 1 40 80) (fun k => wb.heap.size ≤ k ∧ k < wc.heap.size))
                  have HTn := Lib.hid hTn
                  have HJ5 := Lib.hid (HJ4.out.take hnow.below)
                  clear hsm hnow hTn hcase
                  go_wp2_with fail
                  refine (jgen_any HJ5.out).mono ?_
                  rintro e w6 ⟨rfl, rfl⟩
                  go_wp2_with fail
                  refine HSM.out.mono ?_
                  rintro e wd ⟨rfl, hB6⟩
                  have HJ6 := Lib.hid (HJ5.out.of hB6)
                  have HTd := Lib.hid (HTn.out.keep (fun k _ h => hB6.block k h))
                  have hwde := hB6.size
                  clear hB6
                  have HOP2 := Lib.hid (open_JL (n := 40) HJ6.out.dev HJ6.out.ok HJL.out (by decide) (by decide) (by decide) (by decide) most_40)
                  go_wp2_with fail
                  refine HOP2.out.mono ?_
                  rintro e we ⟨rfl, h8, k8⟩
                  have HTe := Lib.hid (HTd.out.keep (W' := we) (fun k hy _ => k8 k (.inr (.inr hy))))
                  have HJ8 := Lib.hid h8
                  clear h8 k8
                  go_wp2_with fail
                  refine (jgen_any HJ8.out).mono ?_
                  rintro e w9 ⟨rfl, rfl⟩
                  go_wp2_with fail
                  refine (jrec_any HJ8.out).mono ?_
                  rintro e w9 ⟨rfl, rfl⟩
                  have hsc2 := sectors_any (fr := 1) (n := 40) HJ8.out.dev HJL.out.hard (by decide) HJL.out.dead (by decide) (by decide)
                  rw [secL_congr (f' := h2) (fun i hi => HJL.out.newest hi)] at hsc2
                  have HSC2 := Lib.hid hsc2
                  clear hsc2
                  go_wp2_with fail
                  refine HSC2.out.mono ?_
                  rintro e wf ⟨vn2, rfl, hnow2⟩
                  have hTf := HTe.out.keep (fun k _ h => hnow2.below.block k h)
                  have HSM2 := Lib.hid (same04_yes (fr := 1) (n := 40) hnow2.at hTf (by rw [secL_length]) (by decide) (by decide) (by rw [secL_length]; decide) (fun i _ _ => rfl))
                  have HTf := Lib.hid hTf
                  have HJ9 := Lib.hid (HJ8.out.of hnow2.below)
                  clear hnow2 hTf
                  go_wp2_with fail
                  refine HSM2.out.mono ?_
                  rintro e wg ⟨rfl, hB7⟩
                  have HJ10 := Lib.hid (HJ9.out.of hB7)
                  have HTg := Lib.hid (HTf.out.keep (fun k _ h => hB7.block k h))
                  clear hB7
                  have hmg := (HMO.out.kb (Kb.of_below HJ10.out.dev.below (fun k hk => by rcases hk with hk | hk; exact hk; exact hk.elim))).less (Y := fun k => ((Y k ∨ k = wa.heap.size) ∨ wb.heap.size ≤ k ∧ k < wc.heap.size) ∨ k = wd.heap.size) (fun _ h => h.elim)
                  have HCM := Lib.hid (commit_JL M HJ10.out HJL.out hmg most_40 HMM.out (by decide) (by decide) (by omega))
                  clear hmg
                  go_wp2_with fail
                  refine HCM.out.mono ?_
                  rintro e wh ⟨s4, h4, rfl, hj11, jl4, ho4, kk4⟩
                  have HTh := Lib.hid (HTg.out.keep (W' := wh) (fun k hy _ => kk4 k (.inr ⟨.inl (.inr hy), by omega⟩)))
                  have hsc3 := sectors_any (fr := 1) (n := 40) hj11.dev jl4.hard (by decide) jl4.dead (by decide) (by decide)
                  rw [secL_congr (f' := h4) (fun i hi => jl4.newest hi)] at hsc3
                  have HSC3 := Lib.hid hsc3
                  have HJ11 := Lib.hid hj11
                  have HO4 := Lib.hid ho4
                  clear hsc3 hj11 jl4 ho4 kk4
                  go_wp2_with fail
                  refine HSC3.out.mono ?_
                  rintro e wi ⟨vn3, rfl, hnow3⟩
                  have HJ12 := Lib.hid (HJ11.out.of hnow3.below)
                  have HTi := Lib.hid (HTh.out.keep (fun k _ h => hnow3.below.block k h))
                  have HT3 := Lib.hid hnow3.at
                  clear hnow3
                  have hmi := HMO.out.kb (Kb.of_below HJ12.out.dev.below (fun k hk => by rcases hk with hk | hk; exact hk; exact hk.elim))
                  have HLD := Lib.hid (laid_any M HTi.out (by rw [secL_length]; decide) (by rw [secL_length]; decide) hmi (fun k hk => by rcases hk with hk | hk; exact Nat.lt_of_lt_of_le hk HJ12.out.dev.below.size; exact hk.elim) hml2 (fun x hx => by rw [secL_length]; exact (HMM.out.put x hx).1))
                  clear hmi
                  go_wp2_with fail
                  refine HLD.out.mono ?_
                  rintro e wj ⟨gl, cl, rfl, hL⟩
                  have hT3j := HT3.out.keep (fun k _ h => hL.below.block k h)
                  have hLat := hL.at
                  rw [laidL_length] at hLat
                  have HSM3 := Lib.hid (same04_yes (fr := 1) (n := 40) hT3j hLat (by rw [secL_length, laidL_length, secL_length]) (by decide) (by decide) (by rw [secL_length]; decide) (same_more HMM.out HO4.out))
                  have HJ13 := Lib.hid (HJ12.out.of hL.below)
                  clear hT3j hLat hL
                  go_wp2_with fail
                  refine HSM3.out.mono ?_
                  rintro e wk ⟨rfl, hB8⟩
                  have HJ14 := Lib.hid (HJ13.out.of hB8)
                  clear hB8
                  go_wp2_with fail
                  refine (alive04_any _).mono ?_
                  rintro e wl ⟨rfl, hB9⟩
                  have HJ15 := Lib.hid (HJ14.out.of hB9)
                  clear hB9
                  go_wp2_with fail
                  go_ret
                  exact ⟨rfl, HJ15.out.dev.below⟩
                · have hsm := same04_yes (fr := 1) (n := 40) hnow.at hthen (by rw [secL_length, laidL_length, secL_length]) (by decide) (by decide) (by rw [secL_length]; decide) (same_then HML.out hcase)
                  have HSM := Lib.hid hsm
                  have hTn := (hnow.at.weak (fun k h1 h2 => ⟨h1, h2⟩) : TxAt wc vn (secL h2 1 40 80) (fun k => wb.heap.size ≤ k ∧ k < wc.heap.size))
                  have HTn := Lib.hid hTn
                  have HJ5 := Lib.hid (HJ4.out.take hnow.below)
                  clear hsm hnow hTn hcase
                  go_wp2_with fail
                  refine (jgen_any HJ5.out).mono ?_
                  rintro e w6 ⟨rfl, rfl⟩
                  go_wp2_with fail
                  refine HSM.out.mono ?_
                  rintro e wd ⟨rfl, hB6⟩
                  have HJ6 := Lib.hid (HJ5.out.of hB6)
                  have HTd := Lib.hid (HTn.out.keep (fun k _ h => hB6.block k h))
                  have hwde := hB6.size
                  clear hB6
                  have HOP2 := Lib.hid (open_JL (n := 40) HJ6.out.dev HJ6.out.ok HJL.out (by decide) (by decide) (by decide) (by decide) most_40)
                  go_wp2_with fail
                  refine HOP2.out.mono ?_
                  rintro e we ⟨rfl, h8, k8⟩
                  have HTe := Lib.hid (HTd.out.keep (W' := we) (fun k hy _ => k8 k (.inr (.inr hy))))
                  have HJ8 := Lib.hid h8
                  clear h8 k8
                  go_wp2_with fail
                  refine (jgen_any HJ8.out).mono ?_
                  rintro e w9 ⟨rfl, rfl⟩
                  go_wp2_with fail
                  refine (jrec_any HJ8.out).mono ?_
                  rintro e w9 ⟨rfl, rfl⟩
                  have hsc2 := sectors_any (fr := 1) (n := 40) HJ8.out.dev HJL.out.hard (by decide) HJL.out.dead (by decide) (by decide)
                  rw [secL_congr (f' := h2) (fun i hi => HJL.out.newest hi)] at hsc2
                  have HSC2 := Lib.hid hsc2
                  clear hsc2
                  go_wp2_with fail
                  refine HSC2.out.mono ?_
                  rintro e wf ⟨vn2, rfl, hnow2⟩
                  have hTf := HTe.out.keep (fun k _ h => hnow2.below.block k h)
                  have HSM2 := Lib.hid (same04_yes (fr := 1) (n := 40) hnow2.at hTf (by rw [secL_length]) (by decide) (by decide) (by rw [secL_length]; decide) (fun i _ _ => rfl))
                  have HTf := Lib.hid hTf
                  have HJ9 := Lib.hid (HJ8.out.of hnow2.below)
                  clear hnow2 hTf
                  go_wp2_with fail
                  refine HSM2.out.mono ?_
                  rintro e wg ⟨rfl, hB7⟩
                  have HJ10 := Lib.hid (HJ9.out.of hB7)
                  have HTg := Lib.hid (HTf.out.keep (fun k _ h => hB7.block k h))
                  clear hB7
                  have hmg := (HMO.out.kb (Kb.of_below HJ10.out.dev.below (fun k hk => by rcases hk with hk | hk; exact hk; exact hk.elim))).less (Y := fun k => ((Y k ∨ k = wa.heap.size) ∨ wb.heap.size ≤ k ∧ k < wc.heap.size) ∨ k = wd.heap.size) (fun _ h => h.elim)
                  have HCM := Lib.hid (commit_JL M HJ10.out HJL.out hmg most_40 HMM.out (by decide) (by decide) (by omega))
                  clear hmg
                  go_wp2_with fail
                  refine HCM.out.mono ?_
                  rintro e wh ⟨s4, h4, rfl, hj11, jl4, ho4, kk4⟩
                  have HTh := Lib.hid (HTg.out.keep (W' := wh) (fun k hy _ => kk4 k (.inr ⟨.inl (.inr hy), by omega⟩)))
                  have hsc3 := sectors_any (fr := 1) (n := 40) hj11.dev jl4.hard (by decide) jl4.dead (by decide) (by decide)
                  rw [secL_congr (f' := h4) (fun i hi => jl4.newest hi)] at hsc3
                  have HSC3 := Lib.hid hsc3
                  have HJ11 := Lib.hid hj11
                  have HO4 := Lib.hid ho4
                  clear hsc3 hj11 jl4 ho4 kk4
                  go_wp2_with fail
                  refine HSC3.out.mono ?_
                  rintro e wi ⟨vn3, rfl, hnow3⟩
                  have HJ12 := Lib.hid (HJ11.out.of hnow3.below)
                  have HTi := Lib.hid (HTh.out.keep (fun k _ h => hnow3.below.block k h))
                  have HT3 := Lib.hid hnow3.at
                  clear hnow3
                  have hmi := HMO.out.kb (Kb.of_below HJ12.out.dev.below (fun k hk => by rcases hk with hk | hk; exact hk; exact hk.elim))
                  have HLD := Lib.hid (laid_any M HTi.out (by rw [secL_length]; decide) (by rw [secL_length]; decide) hmi (fun k hk => by rcases hk with hk | hk; exact Nat.lt_of_lt_of_le hk HJ12.out.dev.below.size; exact hk.elim) hml2 (fun x hx => by rw [secL_length]; exact (HMM.out.put x hx).1))
                  clear hmi
                  go_wp2_with fail
                  refine HLD.out.mono ?_
                  rintro e wj ⟨gl, cl, rfl, hL⟩
                  have hT3j := HT3.out.keep (fun k _ h => hL.below.block k h)
                  have hLat := hL.at
                  rw [laidL_length] at hLat
                  have HSM3 := Lib.hid (same04_yes (fr := 1) (n := 40) hT3j hLat (by rw [secL_length, laidL_length, secL_length]) (by decide) (by decide) (by rw [secL_length]; decide) (same_more HMM.out HO4.out))
                  have HJ13 := Lib.hid (HJ12.out.of hL.below)
                  clear hT3j hLat hL
                  go_wp2_with fail
                  refine HSM3.out.mono ?_
                  rintro e wk ⟨rfl, hB8⟩
                  have HJ14 := Lib.hid (HJ13.out.of hB8)
                  clear hB8
                  go_wp2_with fail
                  refine (alive04_any _).mono ?_
                  rintro e wl ⟨rfl, hB9⟩
                  have HJ15 := Lib.hid (HJ14.out.of hB9)
                  clear hB9
                  go_wp2_with fail
                  go_ret
                  exact ⟨rfl, HJ15.out.dev.below⟩
end Go.Proofs.Ytjjphcnoegaimaa
