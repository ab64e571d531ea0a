/- lunettelaw04.JournalAtomic: the walk. -/
import Derived.Test.YtjjphcnoegaimaaOpenAny
import Derived.Test.YtjjphcnoegaimaaTorn
namespace Go.Proofs.Ytjjphcnoegaimaa
open Go.RowKit Go.Shelf Go.Maps
set_option maxRecDepth 20000
set_option linter.unusedVariables false

set_option maxHeartbeats 400000 in
theorem writes_any (m : Nat) (hm : m ≤ 100000) (w : World) : Calls Try.prog 31 #[.int .i64 m] w fun e w' => e = .returned (.int .i64 (2 * (m : Int) + (places m : Nat) + 2)) ∧ w = w' := by
  have hd : ((m : Int) + 31) / 32 = (places m : Nat) := by unfold places; omega
  go_enter Try.func31, Try.ntmps31
  go_wp2_with fail
  go_ret
  exact ⟨rfl, rfl⟩

/-- Sectors behind Open are as they were, or as they were to be. -/
theorem same_was {h h2 : Nat → ByteArray} (e : ∀ i, Out 80 1 40 i → h2 i = h i) : ∀ i, i < (secL h2 1 40 80).length → ¬ (1 ≤ i ∧ i < 1 + 40) → (secL h2 1 40 80).getD i ByteArray.empty = (secL h 1 40 80).getD i ByteArray.empty := by
  intro i hi hn
  rw [secL_length] at hi
  rw [secL_get _ _ _ _ _ hi, secL_get _ _ _ _ _ hi, if_neg hn, if_neg hn]
  exact e i ⟨hi, by omega⟩
theorem same_then {h h2 : Nat → ByteArray} {l : Puts} (ml : MayP 80 1 40 l) (e : ∀ i, Out 80 1 40 i → h2 i = laid h l i) : ∀ i, i < (secL h2 1 40 80).length → ¬ (1 ≤ i ∧ i < 1 + 40) → (secL h2 1 40 80).getD i ByteArray.empty = (laidL (secL h 1 40 80) l).getD i ByteArray.empty := by
  intro i hi hn
  rw [secL_length] at hi
  rw [secL_get _ _ _ _ _ hi, if_neg hn, e i ⟨hi, by omega⟩]
  rw [laidL_get l (secL h 1 40 80) (fun j => (secL h 1 40 80).getD j ByteArray.empty) (fun x hx => by rw [secL_length]; exact (ml.put x hx).1) i (by rw [secL_length]; exact hi) rfl (fun _ _ => rfl)]
  refine laid_same l _ _ i (.inl ?_)
  rw [secL_get _ _ _ _ _ hi, if_neg hn]

set_option maxHeartbeats 8000000 in
theorem atomic_walk {w : World} (va : Value) (a : List PutZ) (vl : Value) (l : List PutZ) (f : Int) (keep : ByteArray) (ha : SlP w (fun _ => False) w va a) (hl : SlP w (fun _ => False) w vl l) (hf : (Lit.int .u8 f).wf = true) (hk : keep.size ≤ 140737488351232) :
    Calls Try.prog 6 #[va, vl, .int .u8 f, .string keep] w fun e w' => e = .returned (.bool true) ∧ Below w.heap.size w w' := by
  have hn2 : 0 ≤ f ∧ f ≤ 255 := by simpa [Lit.wf, IntKind.min, IntKind.max, IntKind.signed, IntKind.bits] using hf
  obtain ⟨f, rfl⟩ := Int.eq_ofNat_of_zero_le hn2.1
  have hf3 : f ≤ 255 := by omega
  clear hn2 hf
  have hmay := may_any ha hl
  have hw0 : IntKind.i64.wrap (f : Int) = (f : Int) := i64_sm (by omega) (by omega)
  have hll : ∃ ao cap, vl = .slice ao l.length cap := by obtain ⟨ao, cap, rfl, _⟩ := hl; exact ⟨_, _, rfl⟩
  obtain ⟨ao, cap, rfl⟩ := hll
  have HM := Lib.hid hmay
  have HA := Lib.hid ha
  have HL := Lib.hid hl
  clear hmay ha hl
  go_enter Try.func6, Try.ntmps6
  go_wp2_with fail
  refine HM.out.mono ?_
  rintro e w1 ⟨c, rfl, hc, rfl⟩
  cases c
  · clear hc
    go_wp2_with fail
    refine (alive04_any _).mono ?_
    rintro e w1 ⟨rfl, hB⟩
    go_wp2_with fail
    go_ret
    exact ⟨rfl, hB⟩
  · by_cases hk3 : 300 < keep.size
    · have e3 : decide ((keep.size : Int) > 300) = true := decide_eq_true (by omega)
      clear hc
      go_wp2_with fail
      refine (alive04_any _).mono ?_
      rintro e w1 ⟨rfl, hB⟩
      go_wp2_with fail
      go_ret
      exact ⟨rfl, hB⟩
    · have e3 : decide ((keep.size : Int) > 300) = false := decide_eq_false (by omega)
      obtain ⟨-, hbr, hwa, hwl⟩ := hc rfl
      obtain ⟨A, hAz, ma⟩ := may_of hwa most_40 (by decide) (by decide)
      obtain ⟨L, hLz, ml⟩ := may_of hwl most_40 (by decide) (by decide)
      subst hAz hLz
      have h60 : (zP L).length ≤ 60 := hbr.1
      have hwr := writes_any (zP L).length (by omega) w
      obtain ⟨q, hq⟩ : ∃ q : Nat, 2 * ((zP L).length : Int) + (places (zP L).length : Nat) + 2 + 2 = (q : Int) := ⟨2 * (zP L).length + places (zP L).length + 2 + 2, by push_cast; rfl⟩
      have hq0 : 0 < q := by omega
      have hq3 : q ≤ 1000 := by have : places (zP L).length ≤ 60 := by unfold places; omega
                                omega
      have hT := torn_any (w0 := w) (W := w) (keep := keep) A L (Below.refl _ _) HA.out HL.out ma ml ((f : Int) % (q : Int)) (Int.emod_nonneg _ (by omega)) (by have := Int.emod_lt_of_pos (f : Int) (show (0 : Int) < q by omega); omega)
      have HT := Lib.hid hT
      have HWR := Lib.hid hwr
      have HML := Lib.hid ml
      have HQ := Lib.hid hq
      have hq' : 2 * ((zP L).length : Int) + (places (zP L).length : Nat) + 2 ≤ 990 := by have : places (zP L).length ≤ 60 := by unfold places; omega
                                                                                          omega
      generalize (zP L).length = ln at *
      generalize ((places ln : Nat) : Int) = pl at *
      clear hc hbr hwa hwl ma ml hT hwr hk3
      obtain ⟨wv, hwv⟩ : ∃ wv : Int, 2 * (ln : Int) + pl + 2 = wv := ⟨_, rfl⟩
      have hwv2 : wv + 2 = q := by rw [← hwv]; exact HQ.out
      rw [hwv] at HWR hq'
      have HV := Lib.hid hwv
      clear hwv hq
      go_wp2_with fail
      refine HWR.out.mono ?_
      rintro e w1 ⟨rfl, rfl⟩
      go_wp2_with fail
      refine HT.out.mono ?_
      rintro e w2 ⟨v1, v2, Y, h, h', s', rfl, ht⟩
      have hop := open_torn (g := 1) ht.dev ht.ok ht.dead ht.armed ht.clean ht.head HML.out ht.j (by decide) (by decide) (by decide) most_40 (by decide)
      have HOP := Lib.hid hop
      have HTT := Lib.hid ht
      clear hop ht
      go_wp2_with fail
      refine HOP.out.mono ?_
      rintro e w3 ⟨g2, r2, s2, h2, rfl, hj3, hjl, hk3, hcase⟩
      have hwas := HTT.out.was.keep (W' := w3) (fun k hy _ => hk3 k (.inr hy))
      have hthen := HTT.out.then_.keep (W' := w3) (fun k hy _ => hk3 k (.inr hy))
      have hsc := sectors_any (fr := 1) (n := 40) hj3.dev hjl.hard (by decide) hjl.dead (by decide) (by decide)
      rw [secL_congr (f' := h2) (fun i hi => hjl.newest hi)] at hsc
      have HSC := Lib.hid hsc
      have HJ4 := Lib.hid hj3
      have HWAS := Lib.hid hwas
      have HTHEN := Lib.hid hthen
      clear hsc hj3 hjl hwas hthen hk3
      go_wp2_with fail
      refine HSC.out.mono ?_
      rintro e w4 ⟨v4, rfl, hnow⟩
      have hwas := HWAS.out.keep (fun k _ h => hnow.below.block k h)
      have hthen := HTHEN.out.keep (fun k _ h => hnow.below.block k h)
      rcases hcase with ⟨rfl, hcase⟩ | ⟨rfl, hcase⟩
      · have hsm := same04_yes hnow.at hwas (by rw [secL_length, secL_length]) (by decide) (by decide) (by rw [secL_length]; decide) (same_was hcase)
        have HSM := Lib.hid hsm
        have HJ5 := Lib.hid (HJ4.out.of hnow.below)
        clear hsm hnow
        go_wp2_with fail
        refine (jgen_any HJ5.out).mono ?_
        rintro e w6 ⟨rfl, rfl⟩
        go_wp2_with fail
        refine HSM.out.mono ?_
        rintro e w6 ⟨rfl, hB6⟩
        have HJ6 := Lib.hid (HJ5.out.of hB6)
        clear hB6
        go_wp2_with fail
        refine (alive04_any _).mono ?_
        rintro e w7 ⟨rfl, hB7⟩
        have HJ7 := Lib.hid (HJ6.out.of hB7)
        clear hB7
        go_wp2_with fail
        go_ret
        exact ⟨rfl, HJ7.out.dev.below⟩
      · have hsm := same04_yes hnow.at hthen (by rw [secL_length, laidL_length, secL_length]) (by decide) (by decide) (by rw [secL_length]; decide) (same_then HML.out hcase)
        have HSM := Lib.hid hsm
        have HJ5 := Lib.hid (HJ4.out.of hnow.below)
        clear hsm hnow
        go_wp2_with fail
        refine (jgen_any HJ5.out).mono ?_
        rintro e w6 ⟨rfl, rfl⟩
        go_wp2_with fail
        refine (jgen_any HJ5.out).mono ?_
        rintro e w6 ⟨rfl, rfl⟩
        go_wp2_with fail
        refine HSM.out.mono ?_
        rintro e w6 ⟨rfl, hB6⟩
        have HJ6 := Lib.hid (HJ5.out.of hB6)
        clear hB6
        go_wp2_with fail
        refine (alive04_any _).mono ?_
        rintro e w7 ⟨rfl, hB7⟩
        have HJ7 := Lib.hid (HJ6.out.of hB7)
        clear hB7
        go_wp2_with fail
        go_ret
        exact ⟨rfl, HJ7.out.dev.below⟩
end Go.Proofs.Ytjjphcnoegaimaa
