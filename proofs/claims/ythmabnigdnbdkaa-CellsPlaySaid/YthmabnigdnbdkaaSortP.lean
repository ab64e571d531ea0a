/- Sorting rows of uint64: the walks through partitionOrdered and partitionEqualOrdered. -/
import Derived.Test.YthmabnigdnbdkaaSortV
import Derived.Deep.DeepCutAuto
import Derived.Deep.CutBlock
namespace Go.Proofs.Ythmabnigdnbdkaa
open Go.RowKit Go.Sort
set_option maxRecDepth 20000
set_option linter.unusedVariables false
set_option linter.unusedSimpArgs false
theorem nsub {j : Nat} (h : 1 ≤ j) : (((j - 1 : Nat)) : Int) = (j : Int) - 1 := by omega

set_option maxHeartbeats 8000000 in
theorem part_any {w : World} {g cap : Nat} {d : Array Int} (h : URow w g cap d) (hz : d.size ≤ 1000000) (a b p : Nat) (hab : a + 1 < b) (hb : b ≤ d.size) (hap : a ≤ p) (hpb : p < b) :
    Calls Try.prog 85 #[.slice (some ⟨g, 0, none⟩) d.size cap, .int .i64 a, .int .i64 b, .int .i64 p] w fun e w' => (∃ (m : Nat) (q : Bool), e = .returned (.tuple #[.int .i64 m, .bool q]) ∧ ∃ D, URow w' g cap D ∧ a ≤ m ∧ m < b ∧ PermIn a b d D ∧ (∀ k, a ≤ k → k < m → D[k]! ≤ D[m]!) ∧ (∀ k, m < k → k < b → D[m]! ≤ D[k]!)) ∧ Fr (· = g) w w' := by
  obtain ⟨D1, hD1⟩ : ∃ D1, D1 = swp d a p := ⟨_, rfl⟩
  have hn1 : D1.size = d.size := by rw [hD1]; exact size_swp _ _ _
  obtain ⟨P, hP⟩ : ∃ P : Int → Prop, P = fun x => x < D1[a]! := ⟨_, rfl⟩
  obtain ⟨pv, hpv0⟩ : ∃ pv, D1[a]! = pv := ⟨_, rfl⟩
  have HP0 : ∀ x, P x = (x < pv) := fun x => by rw [hP, ← hpv0]
  have HPV := Lib.hid hpv0
  have HD1 := Lib.hid hD1
  have HPP := Lib.hid hP
  have hpt0 : Prt P a b D1 (a + 1) (b - 1) D1 := Prt.start hab
  generalize hN : d.size = N at *
  have HN1 := Lib.hid hn1
  have HNd : Hid (d.size = N) := hN
  clear hD1 hn1 hP hpv0
  have eb : (b : Int) - 1 = (((b - 1 : Nat)) : Int) := by omega
  have ea : (a : Int) + 1 = (((a + 1 : Nat)) : Int) := by omega
  obtain ⟨j0, hj0⟩ : ∃ j0, b - 1 = j0 := ⟨_, rfl⟩
  obtain ⟨i0, hi0⟩ : ∃ i0, a + 1 = i0 := ⟨_, rfl⟩
  rw [hj0, hi0] at hpt0
  rw [hj0] at eb
  rw [hi0] at ea
  have HP1 := Lib.hid hpt0
  clear hpt0
  go_enter Try.func85, Try.ntmps85
  have hf0 := Fr.refl (· = g) w
  have c0 := h.cell (i := a) (by rw [HNd.out]; omega)
  have c1 := h.cell (i := p) (by rw [HNd.out]; omega)
  have z0 := h.frz a
  have z1 := h.frz p
  obtain ⟨x, hx⟩ : ∃ x, d[a]! = x := ⟨_, rfl⟩
  obtain ⟨y, hy⟩ : ∃ y, d[p]! = y := ⟨_, rfl⟩
  rw [hx] at c0
  rw [hy] at c1
  have c2 := (h.set a y).cell (i := p) (by rw [Array.size_setIfInBounds, HNd.out]; omega)
  have HX := Lib.hid hx
  have HY := Lib.hid hy
  have k0 : (a : Int) < (N : Int) := by omega
  have k1 : (p : Int) < (N : Int) := by omega
  clear hx hy
  go_wp2_with fail
  go_region
  have hrs := h.drew.swp a p HY.out HX.out
  have hfs := frg_set (frg_set (frg_drew hf0) a (.int .u64 y)) p (.int .u64 x)
  rw [← HD1.out] at hrs
  have HS := Lib.hid (And.intro hrs hfs)
  clear hrs hfs c0 c1 c2 z0 z1 k0 k1 hf0 h
  obtain ⟨hr0, hf0⟩ := HS.out
  clear HS
  go_upto_block 0 with (fail)
  go_cut [10] (fun s10 wx => ∃ iA : Nat, s10 = .int .i64 iA ∧ Hid (Prt P a b D1 iA j0 D1) ∧ Hid (iA ≤ j0 → ¬ P D1[iA]!) ∧ i0 ≤ iA ∧ URow wx g cap D1 ∧ Fr (· = g) w wx)
  case first =>
    go_wp2_with fail
    go_loopw [10] (fun v10 wr => ∃ iA : Nat, v10 = .int .i64 iA ∧ Hid (Prt P a b D1 iA j0 D1) ∧ i0 ≤ iA ∧ URow wr g cap D1 ∧ Fr (· = g) w wr) (fun v10 _ => j0 + 1 - (intOf v10).toNat)
    case atStart => exact ⟨i0, rfl, HP1, Nat.le_refl _, hr0, hf0⟩
    case round =>
      obtain ⟨iA, rfl, HPr, hbd, hr2, hf2⟩ := hrel
      have hp1 := HPr.out.ij
      have hp2 := HPr.out.ai
      have hp3 := HPr.out.jb
      have hsz : D1.size = N := HPr.out.size.trans HN1.out
      have hpv : D1[a]! = pv := HPr.out.piv.trans HPV.out
      by_cases hij : iA ≤ j0
      · have dij : decide ((iA : Int) ≤ (j0 : Int)) = true := decide_eq_true (by omega)
        have dijn : decide (iA ≤ j0) = true := decide_eq_true hij
        have c0 := hr2.cell (i := iA) (by omega)
        have c1 := hr2.cell (i := a) (by omega)
        rw [hpv] at c1
        obtain ⟨x, hx⟩ : ∃ x, D1[iA]! = x := ⟨_, rfl⟩
        rw [hx] at c0
        have HX := Lib.hid hx
        have k0 : (iA : Int) < (N : Int) := by omega
        have k1 : (a : Int) < (N : Int) := by omega
        clear hx hpv hsz
        by_cases hxy : x < pv
        · go_wp2_with fail
          go_quiet ((go_at_call 83; exact Calls.quiet_of_same (less_yes hxy _)))
          go_wp2_with fail
          go_roundw
          case rel => exact ⟨iA + 1, by go_num, Lib.hid (HPr.out.up hij (by rw [HP0, HX.out]; omega)), by omega, hr2.drewN, hf2.trans (fr_drewN _ _)⟩
          case measure => simp [intOf]; omega
        · go_wp2_with fail
          go_quiet ((go_at_call 83; exact Calls.quiet_of_same (less_no (by omega) _)))
          go_wp2_with fail
          go_meet
          exact ⟨iA, rfl, HPr, Lib.hid (fun _ => by rw [HP0, HX.out]; omega), hbd, hr2.drewN, hf2.trans (fr_drewN _ _)⟩
      · have dij : decide ((iA : Int) ≤ (j0 : Int)) = false := decide_eq_false (by omega)
        have dijn : decide (iA ≤ j0) = false := decide_eq_false hij
        go_wp2_with fail
        go_quiet (fail)
        go_wp2_with fail
        go_meet
        exact ⟨iA, rfl, HPr, Lib.hid (fun h => absurd h hij), hbd, hr2.drewN, hf2.trans (fr_drewN _ _)⟩
  case rest =>
    obtain ⟨iA, rfl, HPA, HNA, hleA, hrA, hfA⟩ := hcut
    clear hr0 hf0
    go_upto_block 2 with (fail)
    go_cut [11] (fun s11 wx => ∃ jB : Nat, s11 = .int .i64 jB ∧ Hid (Prt P a b D1 iA jB D1) ∧ Hid (iA ≤ jB → P D1[jB]!) ∧ jB ≤ j0 ∧ URow wx g cap D1 ∧ Fr (· = g) w wx)
    case first =>
      go_wp2_with fail
      go_loopw [11] (fun v11 wr => ∃ jB : Nat, v11 = .int .i64 jB ∧ Hid (Prt P a b D1 iA jB D1) ∧ jB ≤ j0 ∧ URow wr g cap D1 ∧ Fr (· = g) w wr) (fun v11 _ => (intOf v11).toNat)
      case atStart => exact ⟨j0, rfl, HPA, Nat.le_refl _, hrA, hfA⟩
      case round =>
        obtain ⟨jB, rfl, HPr, hbd, hr2, hf2⟩ := hrel
        have hp1 := HPr.out.ij
        have hp2 := HPr.out.ai
        have hp3 := HPr.out.jb
        have hsz : D1.size = N := HPr.out.size.trans HN1.out
        have hpv : D1[a]! = pv := HPr.out.piv.trans HPV.out
        by_cases hij : iA ≤ jB
        · have dij : decide ((iA : Int) ≤ (jB : Int)) = true := decide_eq_true (by omega)
          have dijn : decide (iA ≤ jB) = true := decide_eq_true hij
          have c0 := hr2.cell (i := jB) (by omega)
          have c1 := hr2.cell (i := a) (by omega)
          rw [hpv] at c1
          obtain ⟨x, hx⟩ : ∃ x, D1[jB]! = x := ⟨_, rfl⟩
          rw [hx] at c0
          have HX := Lib.hid hx
          have k0 : (jB : Int) < (N : Int) := by omega
          have k1 : (a : Int) < (N : Int) := by omega
          clear hx hpv hsz
          by_cases hxy : x < pv
          · go_wp2_with fail
            go_quiet ((go_at_call 83; exact Calls.quiet_of_same (less_yes hxy _)))
            go_wp2_with fail
            go_meet
            exact ⟨jB, rfl, HPr, Lib.hid (fun _ => by rw [HP0, HX.out]; omega), hbd, hr2.drewN, hf2.trans (fr_drewN _ _)⟩
          · go_wp2_with fail
            go_quiet ((go_at_call 83; exact Calls.quiet_of_same (less_no (by omega) _)))
            go_wp2_with fail
            go_roundw
            case rel => exact ⟨jB - 1, by rw [nsub (show 1 ≤ jB by omega)], Lib.hid (HPr.out.down hij (by rw [HP0, HX.out]; omega)), by omega, hr2.drewN, hf2.trans (fr_drewN _ _)⟩
            case measure => simp [intOf]; omega
        · have dij : decide ((iA : Int) ≤ (jB : Int)) = false := decide_eq_false (by omega)
          have dijn : decide (iA ≤ jB) = false := decide_eq_false hij
          go_wp2_with fail
          go_quiet (fail)
          go_wp2_with fail
          go_meet
          exact ⟨jB, rfl, HPr, Lib.hid (fun h => absurd h hij), hbd, hr2.drewN, hf2.trans (fr_drewN _ _)⟩
    case rest =>
      obtain ⟨jB, rfl, HPB, HNB, hleB, hrB, hfB⟩ := hcut
      clear hrA hfA
      have hb1 := HPB.out.ij
      have hb2 := HPB.out.ai
      have hb3 := HPB.out.jb
      have HSB : Hid (D1.size = N) := HN1
      by_cases hc : iA ≤ jB
      rotate_left
      · have dc : decide ((iA : Int) > (jB : Int)) = true := decide_eq_true (by omega)
        have hfin := Prt.fin (d := d) (p := p) (HPP.out ▸ HPB.out) (by rw [HN1.out]; exact hb) (by omega) HD1.out hap hpb
        have c0 := hrB.cell (i := jB) (by rw [HSB.out]; omega)
        have c1 := hrB.cell (i := a) (by rw [HSB.out]; omega)
        have z0 := hrB.frz jB
        have z1 := hrB.frz a
        obtain ⟨x, hx⟩ : ∃ x, D1[jB]! = x := ⟨_, rfl⟩
        obtain ⟨y, hy⟩ : ∃ y, D1[a]! = y := ⟨_, rfl⟩
        rw [hx] at c0
        rw [hy] at c1
        have c2 := (hrB.set jB y).cell (i := a) (by rw [Array.size_setIfInBounds, HSB.out]; omega)
        have HX := Lib.hid hx
        have HY := Lib.hid hy
        have k0 : (jB : Int) < (N : Int) := by omega
        have k1 : (a : Int) < (N : Int) := by omega
        clear hx hy
        go_wp2_with fail
        go_region
        have hrs := hrB.drew.swp jB a HY.out HX.out
        have hfs := frg_set (frg_set (frg_drew hfB) jB (.int .u64 y)) a (.int .u64 x)
        go_wp2_with fail
        go_ret2
        exact ⟨⟨jB, true, rfl, _, hrs, hfin⟩, hfs⟩
      have dc : decide ((iA : Int) > (jB : Int)) = false := decide_eq_false (by omega)
      have dcn : decide (jB < iA) = false := decide_eq_false (by omega)
      have hjb : P D1[jB]! := HNB.out hc
      have hia : ¬ P D1[iA]! := HNA.out (by omega)
      have hlt := HPB.out.lt hc hia hjb
      have HPC := Lib.hid (HPB.out.swap (by rw [HN1.out]; exact hb) hlt hia hjb)
      have ej : (jB : Int) - 1 = (((jB - 1 : Nat)) : Int) := by omega
      have c0 := hrB.cell (i := iA) (by rw [HSB.out]; omega)
      have c1 := hrB.cell (i := jB) (by rw [HSB.out]; omega)
      have z0 := hrB.frz iA
      have z1 := hrB.frz jB
      obtain ⟨x, hx⟩ : ∃ x, D1[iA]! = x := ⟨_, rfl⟩
      obtain ⟨y, hy⟩ : ∃ y, D1[jB]! = y := ⟨_, rfl⟩
      rw [hx] at c0
      rw [hy] at c1
      have c2 := (hrB.set iA y).cell (i := jB) (by rw [Array.size_setIfInBounds, HSB.out]; omega)
      have HX := Lib.hid hx
      have HY := Lib.hid hy
      have k0 : (iA : Int) < (N : Int) := by omega
      have k1 : (jB : Int) < (N : Int) := by omega
      clear hx hy
      go_wp2_with fail
      go_region
      have hrs := hrB.drew.swp iA jB HY.out HX.out
      have hfs := frg_set (frg_set (frg_drew hfB) iA (.int .u64 y)) jB (.int .u64 x)
      go_wp2_with fail
      clear HPB HPA HNA HNB hjb hia
      go_loopw [10, 11] (fun v10 v11 wr => ∃ (i j : Nat) (D : Array Int), v10 = .int .i64 i ∧ v11 = .int .i64 j ∧ Hid (Prt P a b D1 i j D) ∧ URow wr g cap D ∧ Fr (· = g) w wr) (fun v10 v11 _ => (intOf v11 + 1 - intOf v10).toNat)
      case atStart => exact ⟨iA + 1, jB - 1, swp D1 iA jB, by go_num, by go_num, HPC, hrs, hfs⟩
      case round =>
        obtain ⟨i, j, D, rfl, rfl, HPx, hrx, hfx⟩ := hrel
        clear hrs hfs c0 c1 c2 z0 z1 k0 k1 hrB hfB
        obtain ⟨wo, rfl⟩ : ∃ wo : World, wo = wr := ⟨_, rfl⟩
        have hx0 := HPx.out.ij
        go_upto_block 6 with (fail)
        go_cut [10] (fun s10 wx => ∃ iE : Nat, s10 = .int .i64 iE ∧ Hid (Prt P a b D1 iE j D) ∧ Hid (iE ≤ j → ¬ P D[iE]!) ∧ i ≤ iE ∧ URow wx g cap D ∧ Fr (· = g) w wx)
        case first =>
          go_wp2_with fail
          go_loopw [10] (fun v10 wr => ∃ iE : Nat, v10 = .int .i64 iE ∧ Hid (Prt P a b D1 iE j D) ∧ i ≤ iE ∧ URow wr g cap D ∧ Fr (· = g) w wr) (fun v10 _ => j + 1 - (intOf v10).toNat)
          case atStart => exact ⟨i, rfl, HPx, Nat.le_refl _, hrx, hfx⟩
          case round =>
            obtain ⟨iE, rfl, HPr, hbd, hr2, hf2⟩ := hrel
            have hp1 := HPr.out.ij
            have hp2 := HPr.out.ai
            have hp3 := HPr.out.jb
            have hsz : D.size = N := HPr.out.size.trans HN1.out
            have hpv : D[a]! = pv := HPr.out.piv.trans HPV.out
            by_cases hij : iE ≤ j
            · have dij : decide ((iE : Int) ≤ (j : Int)) = true := decide_eq_true (by omega)
              have dijn : decide (iE ≤ j) = true := decide_eq_true hij
              have c0 := hr2.cell (i := iE) (by omega)
              have c1 := hr2.cell (i := a) (by omega)
              rw [hpv] at c1
              obtain ⟨x, hx⟩ : ∃ x, D[iE]! = x := ⟨_, rfl⟩
              rw [hx] at c0
              have HX := Lib.hid hx
              have k0 : (iE : Int) < (N : Int) := by omega
              have k1 : (a : Int) < (N : Int) := by omega
              clear hx hpv hsz
              by_cases hxy : x < pv
              · go_wp2_with fail
                go_quiet ((go_at_call 83; exact Calls.quiet_of_same (less_yes hxy _)))
                go_wp2_with fail
                go_roundw
                case rel => exact ⟨iE + 1, by go_num, Lib.hid (HPr.out.up hij (by rw [HP0, HX.out]; omega)), by omega, hr2.drewN, hf2.trans (fr_drewN _ _)⟩
                case measure => simp [intOf]; omega
              · go_wp2_with fail
                go_quiet ((go_at_call 83; exact Calls.quiet_of_same (less_no (by omega) _)))
                go_wp2_with fail
                go_meet
                exact ⟨iE, rfl, HPr, Lib.hid (fun _ => by rw [HP0, HX.out]; omega), hbd, hr2.drewN, hf2.trans (fr_drewN _ _)⟩
            · have dij : decide ((iE : Int) ≤ (j : Int)) = false := decide_eq_false (by omega)
              have dijn : decide (iE ≤ j) = false := decide_eq_false hij
              go_wp2_with fail
              go_quiet (fail)
              go_wp2_with fail
              go_meet
              exact ⟨iE, rfl, HPr, Lib.hid (fun h => absurd h hij), hbd, hr2.drewN, hf2.trans (fr_drewN _ _)⟩
        case rest =>
          obtain ⟨iE, rfl, HPE, HNE, hleE, hrE, hfE⟩ := hcut
          clear hrx hfx
          go_upto_block 8 with (fail)
          go_cut [11] (fun s11 wx => ∃ jF : Nat, s11 = .int .i64 jF ∧ Hid (Prt P a b D1 iE jF D) ∧ Hid (iE ≤ jF → P D[jF]!) ∧ jF ≤ j ∧ URow wx g cap D ∧ Fr (· = g) w wx)
          case first =>
            go_wp2_with fail
            go_loopw [11] (fun v11 wr => ∃ jF : Nat, v11 = .int .i64 jF ∧ Hid (Prt P a b D1 iE jF D) ∧ jF ≤ j ∧ URow wr g cap D ∧ Fr (· = g) w wr) (fun v11 _ => (intOf v11).toNat)
            case atStart => exact ⟨j, rfl, HPE, Nat.le_refl _, hrE, hfE⟩
            case round =>
              obtain ⟨jF, rfl, HPr, hbd, hr2, hf2⟩ := hrel
              have hp1 := HPr.out.ij
              have hp2 := HPr.out.ai
              have hp3 := HPr.out.jb
              have hsz : D.size = N := HPr.out.size.trans HN1.out
              have hpv : D[a]! = pv := HPr.out.piv.trans HPV.out
              by_cases hij : iE ≤ jF
              · have dij : decide ((iE : Int) ≤ (jF : Int)) = true := decide_eq_true (by omega)
                have dijn : decide (iE ≤ jF) = true := decide_eq_true hij
                have c0 := hr2.cell (i := jF) (by omega)
                have c1 := hr2.cell (i := a) (by omega)
                rw [hpv] at c1
                obtain ⟨x, hx⟩ : ∃ x, D[jF]! = x := ⟨_, rfl⟩
                rw [hx] at c0
                have HX := Lib.hid hx
                have k0 : (jF : Int) < (N : Int) := by omega
                have k1 : (a : Int) < (N : Int) := by omega
                clear hx hpv hsz
                by_cases hxy : x < pv
                · go_wp2_with fail
                  go_quiet ((go_at_call 83; exact Calls.quiet_of_same (less_yes hxy _)))
                  go_wp2_with fail
                  go_meet
                  exact ⟨jF, rfl, HPr, Lib.hid (fun _ => by rw [HP0, HX.out]; omega), hbd, hr2.drewN, hf2.trans (fr_drewN _ _)⟩
                · go_wp2_with fail
                  go_quiet ((go_at_call 83; exact Calls.quiet_of_same (less_no (by omega) _)))
                  go_wp2_with fail
                  go_roundw
                  case rel => exact ⟨jF - 1, by rw [nsub (show 1 ≤ jF by omega)], Lib.hid (HPr.out.down hij (by rw [HP0, HX.out]; omega)), by omega, hr2.drewN, hf2.trans (fr_drewN _ _)⟩
                  case measure => simp [intOf]; omega
              · have dij : decide ((iE : Int) ≤ (jF : Int)) = false := decide_eq_false (by omega)
                have dijn : decide (iE ≤ jF) = false := decide_eq_false hij
                go_wp2_with fail
                go_quiet (fail)
                go_wp2_with fail
                go_meet
                exact ⟨jF, rfl, HPr, Lib.hid (fun h => absurd h hij), hbd, hr2.drewN, hf2.trans (fr_drewN _ _)⟩
          case rest =>
            obtain ⟨jF, rfl, HPF, HNF, hleF, hrF, hfF⟩ := hcut
            clear hrE hfE
            have hb4 := HPF.out.ij
            have hb5 := HPF.out.ai
            have hb6 := HPF.out.jb
            have HSF : Hid (D.size = N) := HPF.out.size.trans HN1.out
            by_cases hc2 : iE ≤ jF
            rotate_left
            · have dc2 : decide ((iE : Int) > (jF : Int)) = true := decide_eq_true (by omega)
              have hfin := Prt.fin (d := d) (p := p) (HPP.out ▸ HPF.out) (by rw [HN1.out]; exact hb) (by omega) HD1.out hap hpb
              have c0 := hrF.cell (i := jF) (by rw [HSF.out]; omega)
              have c1 := hrF.cell (i := a) (by rw [HSF.out]; omega)
              have z0 := hrF.frz jF
              have z1 := hrF.frz a
              obtain ⟨x, hx⟩ : ∃ x, D[jF]! = x := ⟨_, rfl⟩
              obtain ⟨y, hy⟩ : ∃ y, D[a]! = y := ⟨_, rfl⟩
              rw [hx] at c0
              rw [hy] at c1
              have c2 := (hrF.set jF y).cell (i := a) (by rw [Array.size_setIfInBounds, HSF.out]; omega)
              have HX := Lib.hid hx
              have HY := Lib.hid hy
              have k0 : (jF : Int) < (N : Int) := by omega
              have k1 : (a : Int) < (N : Int) := by omega
              clear hx hy
              go_wp2_with fail
              go_region
              have hrs := hrF.drew.swp jF a HY.out HX.out
              have hfs := frg_set (frg_set (frg_drew hfF) jF (.int .u64 y)) a (.int .u64 x)
              go_wp2_with fail
              go_ret2
              exact ⟨⟨jF, false, rfl, _, hrs, hfin⟩, hfs⟩
            have dc2 : decide ((iE : Int) > (jF : Int)) = false := decide_eq_false (by omega)
            have dcn2 : decide (jF < iE) = false := decide_eq_false (by omega)
            have hjf : P D[jF]! := HNF.out hc2
            have hie : ¬ P D[iE]! := HNE.out (by omega)
            have hlt2 := HPF.out.lt hc2 hie hjf
            have HPG := Lib.hid (HPF.out.swap (by rw [HN1.out]; exact hb) hlt2 hie hjf)
            have ej2 : (jF : Int) - 1 = (((jF - 1 : Nat)) : Int) := by omega
            have c0 := hrF.cell (i := iE) (by rw [HSF.out]; omega)
            have c1 := hrF.cell (i := jF) (by rw [HSF.out]; omega)
            have z0 := hrF.frz iE
            have z1 := hrF.frz jF
            obtain ⟨x, hx⟩ : ∃ x, D[iE]! = x := ⟨_, rfl⟩
            obtain ⟨y, hy⟩ : ∃ y, D[jF]! = y := ⟨_, rfl⟩
            rw [hx] at c0
            rw [hy] at c1
            have c2 := (hrF.set iE y).cell (i := jF) (by rw [Array.size_setIfInBounds, HSF.out]; omega)
            have HX := Lib.hid hx
            have HY := Lib.hid hy
            have k0 : (iE : Int) < (N : Int) := by omega
            have k1 : (jF : Int) < (N : Int) := by omega
            clear hx hy
            go_wp2_with fail
            go_region
            have hrs := hrF.drew.swp iE jF HY.out HX.out
            have hfs := frg_set (frg_set (frg_drew hfF) iE (.int .u64 y)) jF (.int .u64 x)
            go_wp2_with fail
            go_roundw
            case rel => exact ⟨iE + 1, jF - 1, swp D iE jF, by go_num, by go_num, HPG, hrs, hfs⟩
            case measure => simp [intOf]; omega

set_option maxHeartbeats 8000000 in
theorem parteq_any {w : World} {g cap : Nat} {d : Array Int} (h : URow w g cap d) (hz : d.size ≤ 1000000) (a b p : Nat) (hab : a + 1 < b) (hb : b ≤ d.size) (hap : a ≤ p) (hpb : p < b) :
    Calls Try.prog 84 #[.slice (some ⟨g, 0, none⟩) d.size cap, .int .i64 a, .int .i64 b, .int .i64 p] w fun e w' => (∃ m : Nat, e = .returned (.int .i64 m) ∧ ∃ D, URow w' g cap D ∧ a < m ∧ m ≤ b ∧ PermIn a b d D ∧ (∀ k, a ≤ k → k < m → D[k]! ≤ d[p]!) ∧ (∀ k, m ≤ k → k < b → d[p]! < D[k]!)) ∧ Fr (· = g) w w' := by
  obtain ⟨D1, hD1⟩ : ∃ D1, D1 = swp d a p := ⟨_, rfl⟩
  have hn1 : D1.size = d.size := by rw [hD1]; exact size_swp _ _ _
  obtain ⟨P, hP⟩ : ∃ P : Int → Prop, P = fun x => x ≤ D1[a]! := ⟨_, rfl⟩
  obtain ⟨pv, hpv0⟩ : ∃ pv, D1[a]! = pv := ⟨_, rfl⟩
  have HP0 : ∀ x, P x = (x ≤ pv) := fun x => by rw [hP, ← hpv0]
  have HPV := Lib.hid hpv0
  have HD1 := Lib.hid hD1
  have HPP := Lib.hid hP
  have hpt0 : Prt P a b D1 (a + 1) (b - 1) D1 := Prt.start hab
  generalize hN : d.size = N at *
  have HN1 := Lib.hid hn1
  have HNd : Hid (d.size = N) := hN
  clear hD1 hn1 hP hpv0
  have eb : (b : Int) - 1 = (((b - 1 : Nat)) : Int) := by omega
  have ea : (a : Int) + 1 = (((a + 1 : Nat)) : Int) := by omega
  obtain ⟨j0, hj0⟩ : ∃ j0, b - 1 = j0 := ⟨_, rfl⟩
  obtain ⟨i0, hi0⟩ : ∃ i0, a + 1 = i0 := ⟨_, rfl⟩
  rw [hj0, hi0] at hpt0
  rw [hj0] at eb
  rw [hi0] at ea
  have HP1 := Lib.hid hpt0
  clear hpt0
  go_enter Try.func84, Try.ntmps84
  have hf0 := Fr.refl (· = g) w
  have c0 := h.cell (i := a) (by rw [HNd.out]; omega)
  have c1 := h.cell (i := p) (by rw [HNd.out]; omega)
  have z0 := h.frz a
  have z1 := h.frz p
  obtain ⟨x, hx⟩ : ∃ x, d[a]! = x := ⟨_, rfl⟩
  obtain ⟨y, hy⟩ : ∃ y, d[p]! = y := ⟨_, rfl⟩
  rw [hx] at c0
  rw [hy] at c1
  have c2 := (h.set a y).cell (i := p) (by rw [Array.size_setIfInBounds, HNd.out]; omega)
  have HX := Lib.hid hx
  have HY := Lib.hid hy
  have k0 : (a : Int) < (N : Int) := by omega
  have k1 : (p : Int) < (N : Int) := by omega
  clear hx hy
  go_wp2_with fail
  go_region
  have hrs := h.drew.swp a p HY.out HX.out
  have hfs := frg_set (frg_set (frg_drew hf0) a (.int .u64 y)) p (.int .u64 x)
  rw [← HD1.out] at hrs
  go_wp2_with fail
  have HS := Lib.hid (And.intro hrs hfs)
  clear hrs hfs c0 c1 c2 z0 z1 k0 k1 hf0 h
  obtain ⟨hr0, hf0⟩ := HS.out
  clear HS
  go_loopw [9, 10] (fun v9 v10 wr => ∃ (i j : Nat) (D : Array Int), v9 = .int .i64 i ∧ v10 = .int .i64 j ∧ Hid (Prt P a b D1 i j D) ∧ URow wr g cap D ∧ Fr (· = g) w wr) (fun v9 v10 _ => (intOf v10 + 1 - intOf v9).toNat)
  case atStart => exact ⟨i0, j0, D1, by go_num, by go_num, HP1, hr0, hf0⟩
  case round =>
    obtain ⟨i, j, D, rfl, rfl, HPx, hrx, hfx⟩ := hrel
    clear hr0 hf0
    obtain ⟨wo, rfl⟩ : ∃ wo : World, wo = wr := ⟨_, rfl⟩
    have hx0 := HPx.out.ij
    go_upto_block 2 with (fail)
    go_cut [9] (fun s9 wx => ∃ iE : Nat, s9 = .int .i64 iE ∧ Hid (Prt P a b D1 iE j D) ∧ Hid (iE ≤ j → ¬ P D[iE]!) ∧ i ≤ iE ∧ URow wx g cap D ∧ Fr (· = g) w wx)
    case first =>
      go_wp2_with fail
      go_loopw [9] (fun v9 wr => ∃ iE : Nat, v9 = .int .i64 iE ∧ Hid (Prt P a b D1 iE j D) ∧ i ≤ iE ∧ URow wr g cap D ∧ Fr (· = g) w wr) (fun v9 _ => j + 1 - (intOf v9).toNat)
      case atStart => exact ⟨i, rfl, HPx, Nat.le_refl _, hrx, hfx⟩
      case round =>
        obtain ⟨iE, rfl, HPr, hbd, hr2, hf2⟩ := hrel
        have hp1 := HPr.out.ij
        have hp2 := HPr.out.ai
        have hp3 := HPr.out.jb
        have hsz : D.size = N := HPr.out.size.trans HN1.out
        have hpv : D[a]! = pv := HPr.out.piv.trans HPV.out
        by_cases hij : iE ≤ j
        · have dij : decide ((iE : Int) ≤ (j : Int)) = true := decide_eq_true (by omega)
          have dijn : decide (iE ≤ j) = true := decide_eq_true hij
          have c0 := hr2.cell (i := iE) (by omega)
          have c1 := hr2.cell (i := a) (by omega)
          rw [hpv] at c1
          obtain ⟨x, hx⟩ : ∃ x, D[iE]! = x := ⟨_, rfl⟩
          rw [hx] at c0
          have HX := Lib.hid hx
          have k0 : (iE : Int) < (N : Int) := by omega
          have k1 : (a : Int) < (N : Int) := by omega
          clear hx hpv hsz
          by_cases hxy : pv < x
          · go_wp2_with fail
            go_quiet ((go_at_call 83; exact Calls.quiet_of_same (less_yes hxy _)))
            go_wp2_with fail
            go_meet
            exact ⟨iE, rfl, HPr, Lib.hid (fun _ => by rw [HP0, HX.out]; omega), hbd, hr2.drewN, hf2.trans (fr_drewN _ _)⟩
          · go_wp2_with fail
            go_quiet ((go_at_call 83; exact Calls.quiet_of_same (less_no (by omega) _)))
            go_wp2_with fail
            go_roundw
            case rel => exact ⟨iE + 1, by go_num, Lib.hid (HPr.out.up hij (by rw [HP0, HX.out]; omega)), by omega, hr2.drewN, hf2.trans (fr_drewN _ _)⟩
            case measure => simp [intOf]; omega
        · have dij : decide ((iE : Int) ≤ (j : Int)) = false := decide_eq_false (by omega)
          have dijn : decide (iE ≤ j) = false := decide_eq_false hij
          go_wp2_with fail
          go_quiet (fail)
          go_wp2_with fail
          go_meet
          exact ⟨iE, rfl, HPr, Lib.hid (fun h => absurd h hij), hbd, hr2.drewN, hf2.trans (fr_drewN _ _)⟩
    case rest =>
      obtain ⟨iE, rfl, HPE, HNE, hleE, hrE, hfE⟩ := hcut
      clear hrx hfx
      go_upto_block 4 with (fail)
      go_cut [10] (fun s10 wx => ∃ jF : Nat, s10 = .int .i64 jF ∧ Hid (Prt P a b D1 iE jF D) ∧ Hid (iE ≤ jF → P D[jF]!) ∧ jF ≤ j ∧ URow wx g cap D ∧ Fr (· = g) w wx)
      case first =>
        go_wp2_with fail
        go_loopw [10] (fun v10 wr => ∃ jF : Nat, v10 = .int .i64 jF ∧ Hid (Prt P a b D1 iE jF D) ∧ jF ≤ j ∧ URow wr g cap D ∧ Fr (· = g) w wr) (fun v10 _ => (intOf v10).toNat)
        case atStart => exact ⟨j, rfl, HPE, Nat.le_refl _, hrE, hfE⟩
        case round =>
          obtain ⟨jF, rfl, HPr, hbd, hr2, hf2⟩ := hrel
          have hp1 := HPr.out.ij
          have hp2 := HPr.out.ai
          have hp3 := HPr.out.jb
          have hsz : D.size = N := HPr.out.size.trans HN1.out
          have hpv : D[a]! = pv := HPr.out.piv.trans HPV.out
          by_cases hij : iE ≤ jF
          · have dij : decide ((iE : Int) ≤ (jF : Int)) = true := decide_eq_true (by omega)
            have dijn : decide (iE ≤ jF) = true := decide_eq_true hij
            have c0 := hr2.cell (i := jF) (by omega)
            have c1 := hr2.cell (i := a) (by omega)
            rw [hpv] at c1
            obtain ⟨x, hx⟩ : ∃ x, D[jF]! = x := ⟨_, rfl⟩
            rw [hx] at c0
            have HX := Lib.hid hx
            have k0 : (jF : Int) < (N : Int) := by omega
            have k1 : (a : Int) < (N : Int) := by omega
            clear hx hpv hsz
            by_cases hxy : pv < x
            · go_wp2_with fail
              go_quiet ((go_at_call 83; exact Calls.quiet_of_same (less_yes hxy _)))
              go_wp2_with fail
              go_roundw
              case rel => exact ⟨jF - 1, by rw [nsub (show 1 ≤ jF by omega)], Lib.hid (HPr.out.down hij (by rw [HP0, HX.out]; omega)), by omega, hr2.drewN, hf2.trans (fr_drewN _ _)⟩
              case measure => simp [intOf]; omega
            · go_wp2_with fail
              go_quiet ((go_at_call 83; exact Calls.quiet_of_same (less_no (by omega) _)))
              go_wp2_with fail
              go_meet
              exact ⟨jF, rfl, HPr, Lib.hid (fun _ => by rw [HP0, HX.out]; omega), hbd, hr2.drewN, hf2.trans (fr_drewN _ _)⟩
          · have dij : decide ((iE : Int) ≤ (jF : Int)) = false := decide_eq_false (by omega)
            have dijn : decide (iE ≤ jF) = false := decide_eq_false hij
            go_wp2_with fail
            go_quiet (fail)
            go_wp2_with fail
            go_meet
            exact ⟨jF, rfl, HPr, Lib.hid (fun h => absurd h hij), hbd, hr2.drewN, hf2.trans (fr_drewN _ _)⟩
      case rest =>
        obtain ⟨jF, rfl, HPF, HNF, hleF, hrF, hfF⟩ := hcut
        clear hrE hfE
        have hb4 := HPF.out.ij
        have hb5 := HPF.out.ai
        have hb6 := HPF.out.jb
        have HSF : Hid (D.size = N) := HPF.out.size.trans HN1.out
        by_cases hc2 : iE ≤ jF
        rotate_left
        · have dc2 : decide ((iE : Int) > (jF : Int)) = true := decide_eq_true (by omega)
          have hfin := Prt.fin_eq (d := d) (p := p) (HPP.out ▸ HPF.out) (by rw [HN1.out]; exact hb) (by omega) HD1.out hap hpb
          go_wp2_with fail
          go_ret
          exact ⟨⟨iE, rfl, _, hrF, hfin⟩, hfF⟩
        have dc2 : decide ((iE : Int) > (jF : Int)) = false := decide_eq_false (by omega)
        have dcn2 : decide (jF < iE) = false := decide_eq_false (by omega)
        have hjf : P D[jF]! := HNF.out hc2
        have hie : ¬ P D[iE]! := HNE.out (by omega)
        have hlt2 := HPF.out.lt hc2 hie hjf
        have HPG := Lib.hid (HPF.out.swap (by rw [HN1.out]; exact hb) hlt2 hie hjf)
        have ej2 : (jF : Int) - 1 = (((jF - 1 : Nat)) : Int) := by omega
        have c0 := hrF.cell (i := iE) (by rw [HSF.out]; omega)
        have c1 := hrF.cell (i := jF) (by rw [HSF.out]; omega)
        have z0 := hrF.frz iE
        have z1 := hrF.frz jF
        obtain ⟨x, hx⟩ : ∃ x, D[iE]! = x := ⟨_, rfl⟩
        obtain ⟨y, hy⟩ : ∃ y, D[jF]! = y := ⟨_, rfl⟩
        rw [hx] at c0
        rw [hy] at c1
        have c2 := (hrF.set iE y).cell (i := jF) (by rw [Array.size_setIfInBounds, HSF.out]; omega)
        have HX := Lib.hid hx
        have HY := Lib.hid hy
        have k0 : (iE : Int) < (N : Int) := by omega
        have k1 : (jF : Int) < (N : Int) := by omega
        clear hx hy
        go_wp2_with fail
        go_region
        have hrs := hrF.drew.swp iE jF HY.out HX.out
        have hfs := frg_set (frg_set (frg_drew hfF) iE (.int .u64 y)) jF (.int .u64 x)
        go_wp2_with fail
        go_roundw
        case rel => exact ⟨iE + 1, jF - 1, swp D iE jF, by go_num, by go_num, HPG, hrs, hfs⟩
        case measure => simp [intOf]; omega

end Go.Proofs.Ythmabnigdnbdkaa
