/- Sorting rows of uint64: the walk through pdqsortOrdered, and slices.Sort. -/
import Derived.Test.YthmabnigdnbdkaaSortW
import Derived.Test.YthmabnigdnbdkaaSortH
import Derived.Test.YthmabnigdnbdkaaSortP
import Derived.Test.YthmabnigdnbdkaaSortI
import Derived.Test.YthmabnigdnbdkaaSortB
namespace Go.Proofs.Ythmabnigdnbdkaa
open Go.RowKit Go.Sort
set_option maxRecDepth 20000
set_option linter.unusedVariables false
set_option linter.unusedSimpArgs false

set_option maxHeartbeats 16000000 in
theorem pdq_any : ∀ (n : Nat) {w : World} {g cap : Nat} {d : Array Int} (_ : URow w g cap d) (_ : d.size ≤ 255) (a b : Nat) (lim : Int) (_ : a ≤ b) (_ : b ≤ d.size) (_ : b - a = n) (_ : Sort.Below ltInt a b d),
    Calls Try.prog 75 #[.slice (some ⟨g, 0, none⟩) d.size cap, .int .i64 a, .int .i64 b, .int .i64 lim] w fun e w' => e = .returned (.tuple #[]) ∧ (∃ D, URow w' g cap D ∧ PermIn a b d D ∧ SortedIn ltInt a b D) ∧ Fr (· = g) w w' := by
  intro n
  induction n using Nat.strongRecOn with
  | ind n ih =>
  intro w g cap d h hz a0 b0 lim0 hab0 hb0 hn hbel
  obtain ⟨N, hN⟩ : ∃ N, d.size = N := ⟨_, rfl⟩
  have HNd : Hid (d.size = N) := hN
  have IH : Hid (∀ m, m < n → ∀ {w : World} {d : Array Int} (_ : URow w g cap d) (_ : d.size = N) (a b : Nat) (lim : Int) (_ : a ≤ b) (_ : b ≤ d.size) (_ : b - a = m) (_ : Sort.Below ltInt a b d),
    Calls Try.prog 75 #[.slice (some ⟨g, 0, none⟩) N cap, .int .i64 a, .int .i64 b, .int .i64 lim] w fun e w' => e = .returned (.tuple #[]) ∧ (∃ D, URow w' g cap D ∧ PermIn a b d D ∧ SortedIn ltInt a b D) ∧ Fr (· = g) w w') := by
    intro m hm w d h1 h2 a b lim h3 h4 h5 h6
    have := ih m hm h1 (by omega) a b lim h3 h4 h5 h6
    rw [h2] at this
    exact this
  have HBEL := Lib.hid hbel
  rw [hN] at hz hb0 ⊢
  clear ih hbel hN
  have hpq0 : Pq d a0 b0 a0 b0 d := Pq.start hab0
  have HP0 := Lib.hid hpq0
  clear hpq0
  have HZB : Hid (b0 ≤ d.size) := by show _ ≤ _; rw [HNd.out]; exact hb0
  have HBB : Hid (∀ a b D, Pq d a0 b0 a b D → Sort.Below ltInt a b D) := fun a b D hp => hp.below HZB.out HBEL.out
  go_enter Try.func75, Try.ntmps75
  go_wp2_with fail
  go_loopw [1, 2, 3, 8, 9] (fun v1 v2 v3 v8 v9 wr => ∃ (a b : Nat) (lim : Int) (wb wp : Bool) (D : Array Int), v1 = .int .i64 a ∧ v2 = .int .i64 b ∧ v3 = .int .i64 lim ∧ v8 = .bool wb ∧ v9 = .bool wp ∧ Hid (Pq d a0 b0 a b D) ∧ URow wr g cap D ∧ Fr (· = g) w wr) (fun v1 v2 _ _ _ _ => (intOf v2 - intOf v1).toNat)
  case atStart => exact ⟨a0, b0, lim0, true, true, d, rfl, rfl, rfl, rfl, rfl, HP0, h, Fr.refl _ _⟩
  case round =>
    obtain ⟨a, b, lim, wb, wp, D, rfl, rfl, rfl, rfl, rfl, HP, hr, hf⟩ := hrel
    clear h
    have hp1 := HP.out.l1
    have hp2 := HP.out.l2
    have hp3 := HP.out.l3
    have HS : Hid (D.size = N) := HP.out.size.trans HNd.out
    obtain ⟨l, hl⟩ : ∃ l, b - a = l := ⟨_, rfl⟩
    have en : (b : Int) - (a : Int) = (l : Int) := by omega
    by_cases h12 : l ≤ 12
    · have d12 : decide ((l : Int) ≤ 12) = true := decide_eq_true (by omega)
      have d12n : decide (l ≤ 12) = true := decide_eq_true h12
      have hi := insort_any hr (by rw [HS.out]; omega) a b (by rw [HS.out]; omega) hp2
      rw [HS.out] at hi
      have HI := Lib.hid hi
      clear hi
      have hd := insertionSort_holds (lt := ltInt) swo_ltInt D a b hp2 (by rw [HS.out]; omega)
      have hfin := (HP.out.step HZB.out hd.1).done hd.2
      have HF := Lib.hid hfin
      clear hd hfin
      go_wp2_with fail
      refine HI.out.mono ?_
      rintro e w1 ⟨rfl, hr1, hf1⟩
      go_wp2_with fail
      exact bodyPost_ret (results_none rfl _ _ _) rfl ⟨rfl, ⟨_, hr1, HF.out⟩, hf.trans hf1⟩
    have d12 : decide ((l : Int) ≤ 12) = false := decide_eq_false (by omega)
    have d12n : decide (l ≤ 12) = false := decide_eq_false h12
    by_cases hlim : lim = 0
    · have dlim : (lim == 0) = true := by simp [hlim]
      have hi := heap_any hr (by rw [HS.out]; omega) a b hp2 (by rw [HS.out]; omega)
      rw [HS.out] at hi
      have HI := Lib.hid hi
      clear hi hlim
      have hd := heapSort_holds (lt := ltInt) swo_ltInt D a b hp2 (by rw [HS.out]; omega)
      have hfin := (HP.out.step HZB.out hd.1).done hd.2
      have HF := Lib.hid hfin
      clear hd hfin
      go_wp2_with fail
      refine HI.out.mono ?_
      rintro e w1 ⟨rfl, hr1, hf1⟩
      go_wp2_with fail
      exact bodyPost_ret (results_none rfl _ _ _) rfl ⟨rfl, ⟨_, hr1, HF.out⟩, hf.trans hf1⟩
    have dlim : (lim == 0) = false := by simpa using hlim
    clear hlim
    go_upto_if 35 with (fail)
    go_cut [3] (fun s3 wx => ∃ (lim : Int) (D : Array Int), s3 = .int .i64 lim ∧ Hid (Pq d a0 b0 a b D) ∧ URow wx g cap D ∧ Fr (· = g) w wx)
    case first =>
      cases wb
      · have hi := breakp_any hr (by rw [HS.out]; exact hz) a b hp2 (by rw [HS.out]; omega)
        rw [HS.out] at hi
        have HI := Lib.hid hi
        clear hi
        go_wp2_with fail
        refine HI.out.mono ?_
        rintro e w1 ⟨rfl, ⟨D1, hr1, hpm⟩, hf1⟩
        have HP1 := Lib.hid (HP.out.step HZB.out hpm)
        clear hpm
        go_wp2_with fail
        go_meet
        exact ⟨_, D1, rfl, HP1, hr1, hf.trans hf1⟩
      · go_wp2_with fail
        go_meet
        exact ⟨lim, D, rfl, HP, hr, hf⟩
    case rest =>
      obtain ⟨lim1, D1, rfl, HP1, hr1, hf1⟩ := hcut
      clear hr hf HP HS
      have HS : Hid (D1.size = N) := HP1.out.size.trans HNd.out
      have hi := pivot_any hr1 (by rw [HS.out]; omega) a b (by omega) (by rw [HS.out]; omega)
      rw [HS.out] at hi
      have HI := Lib.hid hi
      clear hi
      go_wp2_with fail
      refine HI.out.mono ?_
      rintro e w2 ⟨⟨p, hnt, rfl, hp4, hp5⟩, hr2, hB2⟩
      have hf2 := hf1.trans (Fr.of_below (S := (· = g)) hB2)
      clear hr1 hf1 hB2 HI
      go_upto_if 50 with (fail)
      go_cut [11, 12] (fun s11 s12 wx => ∃ (p : Nat) (hnt : Int) (D : Array Int), s11 = .int .i64 p ∧ s12 = .int .i64 hnt ∧ a ≤ p ∧ p < b ∧ Hid (Pq d a0 b0 a b D) ∧ URow wx g cap D ∧ Fr (· = g) w wx)
      case first =>
        by_cases h2 : hnt = 2
        · have dh : (hnt == 2) = true := by simp [h2]
          have hi := reverse_any hr2 (by rw [HS.out]; omega) a b hp2 (by rw [HS.out]; omega)
          rw [HS.out] at hi
          have HI := Lib.hid hi
          clear hi h2
          go_wp2_with fail
          refine HI.out.mono ?_
          rintro e w3 ⟨rfl, ⟨D2, hr3, hpm⟩, hf3⟩
          have HP2 := Lib.hid (HP1.out.step HZB.out hpm)
          clear hpm
          go_wp2_with fail
          go_meet
          exact ⟨b - 1 - (p - a), _, D2, by congr 1; omega, rfl, by omega, by omega, HP2, hr3, hf2.trans hf3⟩
        · have dh : (hnt == 2) = false := by simpa using h2
          clear h2
          go_wp2_with fail
          go_meet
          exact ⟨p, hnt, D1, rfl, rfl, hp4, hp5, HP1, hr2, hf2⟩
      case rest =>
        obtain ⟨p3, hnt3, D3, rfl, rfl, hp6, hp7, HP3, hr3, hf3⟩ := hcut
        clear hr2 hf2 HP1 HS
        have HS : Hid (D3.size = N) := HP3.out.size.trans HNd.out
        go_upto_region 15 with (fail)
        go_cut [68] (fun s68 wx => (∃ q : Bool, s68 = .bool q) ∧ URow wx g cap D3 ∧ Fr (· = g) w wx)
        case first =>
          cases wb <;> cases wp
          all_goals
            go_wp2_with fail
            go_meet
            exact ⟨⟨_, rfl⟩, hr3, hf3⟩
        case rest =>
          obtain ⟨⟨q, rfl⟩, hr4, hf4⟩ := hcut
          clear hr3 hf3
          go_upto_if 68 with (fail)
          go_cut [] (fun wx => ∃ D : Array Int, Hid (Pq d a0 b0 a b D) ∧ URow wx g cap D ∧ Fr (· = g) w wx)
          case first =>
            cases q
            · go_wp2_with fail
              go_meet
              exact ⟨D3, HP3, hr4, hf4⟩
            · have hi := partins_any hr4 (by rw [HS.out]; omega) a b (by omega) (by rw [HS.out]; omega)
              rw [HS.out] at hi
              have HI := Lib.hid hi
              clear hi
              have hd := partialInsertionSort_holds (lt := ltInt) swo_ltInt D3 a b (by omega) (by rw [HS.out]; omega) (HBB.out a b D3 HP3.out)
              have HD := Lib.hid hd
              clear hd
              go_wp2_with fail
              refine HI.out.mono ?_
              rintro e w5 ⟨⟨q, rfl, D5, hr5, he5⟩, hf5⟩
              have hd := HD.out
              rw [he5] at hd
              have HP5 := Lib.hid (HP3.out.step HZB.out hd.1)
              have HQ := Lib.hid hd.2
              clear hd he5
              cases q
              · go_wp2_with fail
                go_meet
                exact ⟨D5, HP5, hr5, hf4.trans hf5⟩
              · have HF := Lib.hid (HP5.out.done (HQ.out rfl))
                go_wp2_with fail
                exact bodyPost_ret (results_none rfl _ _ _) rfl ⟨rfl, ⟨_, hr5, HF.out⟩, hf4.trans hf5⟩
          case rest =>
            obtain ⟨D6, HP6, hr6, hf6⟩ := hcut
            clear hr4 hf4 HP3 HS
            have HS : Hid (D6.size = N) := HP6.out.size.trans HNd.out
            have hbel := HBB.out a b D6 HP6.out
            have hpc := hr6.cell (i := p3) (by rw [HS.out]; omega)
            obtain ⟨y, hy⟩ : ∃ y, D6[p3]! = y := ⟨_, rfl⟩
            rw [hy] at hpc
            have HY := Lib.hid hy
            clear hy
            have kp : (p3 : Int) < (N : Int) := by omega
            go_upto_region 17 with (fail)
            go_cut [87] (fun s87 wx => (∃ q : Bool, s87 = .bool q ∧ (q = true → 0 < a ∧ y ≤ D6[a - 1]!)) ∧ URow wx g cap D6 ∧ Fr (· = g) w wx)
            case first =>
              cases a with
              | zero =>
                go_wp2_with fail
                go_quiet (fail)
                go_wp2_with fail
                go_meet
                exact ⟨⟨false, rfl, fun h => by cases h⟩, hr6.drewN, hf6.trans (fr_drewN _ _)⟩
              | succ a =>
                have hac := hr6.cell (i := a) (by rw [HS.out]; omega)
                obtain ⟨x, hx⟩ : ∃ x, D6[a]! = x := ⟨_, rfl⟩
                rw [hx] at hac
                have HX := Lib.hid hx
                clear hx
                have ka : (a : Int) < (N : Int) := by omega
                have ka1 : decide ((a : Int) + 1 > 0) = true := decide_eq_true (by omega)
                have kw : IntKind.i64.wrap ((a : Int) + 1 - 1) = (a : Int) := by rw [IntWalk.i64_in _ (by omega)]; omega
                have kw2 : IntKind.i64.wrap (a : Int) = (a : Int) := IntWalk.i64_in _ (by omega)
                by_cases hxy : x < y
                · go_wp2_with fail
                  go_quiet ((go_at_call 83; exact Calls.quiet_of_same (less_yes hxy _)))
                  go_wp2_with fail
                  go_meet
                  exact ⟨⟨false, rfl, fun h => by cases h⟩, hr6.drewN, hf6.trans (fr_drewN _ _)⟩
                · go_wp2_with fail
                  go_quiet ((go_at_call 83; exact Calls.quiet_of_same (less_no (by omega) _)))
                  go_wp2_with fail
                  go_meet
                  exact ⟨⟨true, rfl, fun _ => ⟨by omega, by rw [Nat.add_sub_cancel, HX.out]; omega⟩⟩, hr6.drewN, hf6.trans (fr_drewN _ _)⟩
            case rest =>
              obtain ⟨⟨q, rfl, hq⟩, hr7, hf7⟩ := hcut
              clear hr6 hf6 hpc
              cases q
              · have hi := part_any hr7 (by rw [HS.out]; omega) a b p3 (by omega) (by rw [HS.out]; omega) hp6 hp7
                rw [HS.out] at hi
                have HI := Lib.hid hi
                clear hi hq hbel
                go_wp2_with fail
                refine HI.out.mono ?_
                rintro e w8 ⟨⟨m, q, rfl, D8, hr8, m1, m2, hpm, hle, hge⟩, hf8⟩
                have HP8 := Lib.hid (HP6.out.step HZB.out hpm)
                have HL := Lib.hid hle
                have HG := Lib.hid hge
                have hf9 := hf7.trans hf8
                have HS8 : Hid (D8.size = N) := HP8.out.size.trans HNd.out
                clear hpm hle hge hr7 hf7 hf8 HI HP6 HS
                have e1 : (m : Int) - (a : Int) = (((m - a : Nat)) : Int) := by omega
                have e2 : (b : Int) - (m : Int) = (((b - m : Nat)) : Int) := by omega
                have hB8 := HBB.out a b D8 HP8.out
                by_cases hlr : m - a < b - m
                · have dlr : decide ((((m - a : Nat)) : Int) < (((b - m : Nat)) : Int)) = true := decide_eq_true (by omega)
                  have dlrn : decide (m - a < b - m) = true := decide_eq_true hlr
                  have hbl : Sort.Below ltInt a m D8 := by
                    rcases hB8 with h0 | h0
                    · exact .inl h0
                    · exact .inr (fun i i1 i2 => h0 i i1 (by omega))
                  have hc := IH.out (m - a) (by omega) hr8 HS8.out a m lim1 m1 (by rw [HS8.out]; omega) rfl hbl
                  have HC := Lib.hid hc
                  clear hc hbl hB8
                  go_wp2_with fail
                  refine HC.out.mono ?_
                  rintro e w9 ⟨rfl, ⟨D9, hr9, hp9, hs9⟩, hf10⟩
                  have HP9 := Lib.hid (HP8.out.left_done HZB.out m1 m2 HL.out HG.out hp9 hs9)
                  clear hp9 hs9
                  go_wp2_with fail
                  go_roundw
                  case rel => exact ⟨m + 1, b, lim1, _, q, D9, by go_num, rfl, rfl, rfl, rfl, HP9, hr9, hf9.trans hf10⟩
                  case measure => simp [intOf]; omega
                · have dlr : decide ((((m - a : Nat)) : Int) < (((b - m : Nat)) : Int)) = false := decide_eq_false (by omega)
                  have dlrn : decide (m - a < b - m) = false := decide_eq_false hlr
                  have hbl : Sort.Below ltInt (m + 1) b D8 := by
                    refine .inr (fun i i1 i2 => ltI.2 ?_)
                    rw [Nat.add_sub_cancel]
                    exact HG.out i (by omega) i2
                  have hc := IH.out (b - (m + 1)) (by omega) hr8 HS8.out (m + 1) b lim1 (by omega) (by rw [HS8.out]; omega) rfl hbl
                  have em : (((m + 1 : Nat)) : Int) = (m : Int) + 1 := by omega
                  rw [em] at hc
                  have HC := Lib.hid hc
                  clear hc hbl hB8 em
                  go_wp2_with fail
                  refine HC.out.mono ?_
                  rintro e w9 ⟨rfl, ⟨D9, hr9, hp9, hs9⟩, hf10⟩
                  have HP9 := Lib.hid (HP8.out.right_done HZB.out m1 m2 HL.out HG.out hp9 hs9)
                  clear hp9 hs9
                  go_wp2_with fail
                  go_roundw
                  case rel => exact ⟨a, m, lim1, _, q, D9, rfl, rfl, rfl, rfl, rfl, HP9, hr9, hf9.trans hf10⟩
                  case measure => simp [intOf]; omega
              · obtain ⟨ha0, hya⟩ := hq rfl
                have hi := parteq_any hr7 (by rw [HS.out]; omega) a b p3 (by omega) (by rw [HS.out]; omega) hp6 hp7
                rw [HS.out] at hi
                have HI := Lib.hid hi
                have hv : ∀ i, a ≤ i → i < b → D6[p3]! ≤ D6[i]! := fun i i1 i2 => by
                  rcases hbel with h0 | h0
                  · omega
                  · have := ltI.1 (h0 i i1 i2)
                    rw [HY.out]
                    omega
                have HV := Lib.hid hv
                clear hi hq hv hbel hya
                go_wp2_with fail
                refine HI.out.mono ?_
                rintro e w8 ⟨⟨m, rfl, D8, hr8, m1, m2, hpm, hle, hge⟩, hf8⟩
                have HP8 := Lib.hid (HP6.out.equal HZB.out m1 m2 hpm HV.out hle hge)
                clear hpm hle hge
                go_wp2_with fail
                go_roundw
                case rel => exact ⟨m, b, lim1, wb, wp, D8, rfl, rfl, rfl, rfl, rfl, HP8, hr8, hf7.trans hf8⟩
                case measure => simp [intOf]; omega
end Go.Proofs.Ythmabnigdnbdkaa
