/- The law InodeTold: what an indirect block was told it tells, with noughts behind; what it tells makes it. -/
import Derived.Test.YtcdmipgopffaaaaInoAlive
import Derived.BigRegion
import Derived.Deep.DeepCutAuto
namespace Go.Proofs.Ytcdmipgopffaaaa
open Go.RowKit
set_option maxRecDepth 100000

theorem gots_zeros : ∀ n : Nat, gots (zeros (2 * n)) = List.replicate n 0
  | 0 => rfl
  | n + 1 => by
    have e : zeros (2 * (n + 1)) = 0 :: 0 :: zeros (2 * n) := by simp [zeros, Nat.mul_add, List.replicate_succ]
    rw [e, gots_two, gots_zeros n, List.replicate_succ]
    rfl
theorem pby_gots : ∀ (n : Nat) (l : List UInt8), l.length = 2 * n → pby (gots l) = l
  | 0, l, h => by
    obtain rfl : l = [] := List.eq_nil_of_length_eq_zero (by omega)
    rfl
  | n + 1, [], h => by simp at h
  | n + 1, [a], h => by simp at h; omega
  | n + 1, a :: b :: l, h => by
    rw [gots_two, pby, List.flatMap_cons]
    have ih := pby_gots n l (by simp at h; omega)
    rw [pby] at ih
    rw [ih]
    have e : bytesLE ((a.toNat + 256 * b.toNat : Nat) : Int).toNat 2 = [a, b] := by
      have ha := a.toNat_lt
      have hb := b.toNat_lt
      have e0 : ((a.toNat + 256 * b.toNat : Nat) : Int).toNat = a.toNat + 256 * b.toNat := Int.toNat_natCast _
      rw [e0]
      have e1 : (a.toNat + 256 * b.toNat) % 256 = a.toNat := by omega
      have e2 : (a.toNat + 256 * b.toNat) / 256 % 256 = b.toNat := by omega
      simp only [bytesLE, e1, e2]
      simp
    rw [e]
    rfl
theorem gots_wf (l : List UInt8) : ∀ n ∈ gots l, (Lit.int .u16 n).wf = true := by
  intro n hn
  obtain ⟨k, hk, rfl⟩ := List.getElem_of_mem hn
  have h := gots_bd l k
  rw [List.getD_eq_getElem?_getD, List.getElem?_eq_getElem hk, Option.getD_some] at h
  exact wf_u16 h.1 h.2
/-- What a told block tells. -/
def tolds (zs : List Int) : List Int := zs ++ List.replicate (32 - zs.length) 0
theorem gots_told {zs : List Int} (h : ∀ z ∈ zs, (Lit.int .u16 z).wf = true) (hl : zs.length ≤ 32) : gots (pby zs ++ zeros (64 - 2 * zs.length)) = tolds zs := by
  rw [gots_pby h, show 64 - 2 * zs.length = 2 * (32 - zs.length) by omega, gots_zeros]
  rfl
theorem tolds_get (zs : List Int) (hl : zs.length ≤ 32) {k : Nat} (hk : k < 32) : (u16s (tolds zs))[k]? = some (.int .u16 (if k < zs.length then zs.getD k 0 else 0)) := by
  rw [u16s_get _ (by simp [tolds]; omega)]
  congr 2
  by_cases h : k < zs.length
  · rw [if_pos h, List.getD_eq_getElem?_getD, List.getD_eq_getElem?_getD, tolds, List.getElem?_append_left h]
  · rw [if_neg h, List.getD_eq_getElem?_getD, tolds, List.getElem?_append_right (by omega), List.getElem?_replicate]
    split <;> rfl

def TellR (zs : List Int) (T : List UInt8) (z : Int) : Prop := (z = 0 ∧ zs.length ≤ 32 ∧ T = pby zs ++ zeros (64 - 2 * zs.length)) ∨ (z = 2 ∧ 32 < zs.length ∧ T = [])
theorem tell_some {v : Value} {zs : List Int} {w : World} (h : SlI .u16 w v zs) : Calls Try.prog 33 #[v] w fun e w' => (∃ T z, e = .returned (.tuple #[.string (bs T), .int .i64 z]) ∧ TellR zs T z) ∧ Below w.heap.size w w' := by
  by_cases hl : zs.length ≤ 32
  · exact (tell_any h hl).mono fun e w' ⟨he, hB⟩ => ⟨⟨_, _, he, .inl ⟨rfl, hl, rfl⟩⟩, hB⟩
  · exact (tell_no h (by omega)).mono fun e w' ⟨he, hw⟩ => ⟨⟨_, _, he, .inr ⟨rfl, by omega, rfl⟩⟩, by subst hw; exact Below.refl _ _⟩

set_option maxHeartbeats 4000000 in
theorem inotold_walk (v : Value) (zs : List Int) (s : ByteArray) {w : World} (hv : SlI .u16 w v zs) (hs : s.size ≤ 140737488351232) :
    Calls Try.prog 10 #[v, .string s] w fun e w' => e = .returned (.bool true) ∧ Below w.heap.size w w' := by
  obtain ⟨l, rfl⟩ : ∃ l, s = bs l := ⟨_, (bs_of s).symm⟩
  rw [bs_size] at hs
  have hsl := bs_size l
  have hv' := hv
  obtain ⟨⟨ao, cap, rfl, hcs⟩, hwf⟩ := hv'
  have HC := Lib.hid hcs
  have HW := Lib.hid hwf
  have HV := Lib.hid hv
  clear hcs hwf hv
  by_cases hl1 : 100 < zs.length
  · go_enter Try.func10, Try.ntmps10
    go_wp2_with fail
    refine (alive07 _).mono ?_
    rintro e w1 ⟨rfl, hB⟩
    go_wp2_with fail
    go_ret
    exact ⟨rfl, hB⟩
  · by_cases hl2 : 1000 < l.length
    · go_enter Try.func10, Try.ntmps10
      go_wp2_with fail
      refine (alive07 _).mono ?_
      rintro e w1 ⟨rfl, hB⟩
      go_wp2_with fail
      go_ret
      exact ⟨rfl, hB⟩
    · go_enter Try.func10, Try.ntmps10
      go_wp2_with fail
      refine (tell_some HV.out).mono ?_
      rintro e w1 ⟨⟨T, z, rfl, HT⟩, hB1⟩
      go_upto_region 4 with (fail)
      go_cut [33] (fun s wx => s = .bool false ∧ wx = w1)
      case first =>
        rcases HT with ⟨rfl, hl, -⟩ | ⟨rfl, hl, -⟩
        · have hd : decide ((zs.length : Int) ≤ 32) = true := decide_eq_true (by omega)
          go_wp2_with fail
          go_meet
          exact ⟨rfl, rfl⟩
        · have hd : decide ((zs.length : Int) ≤ 32) = false := decide_eq_false (by omega)
          go_wp2_with fail
          go_meet
          exact ⟨rfl, rfl⟩
      case rest =>
        obtain ⟨rfl, rfl⟩ := hcut
        go_upto_if 35 with (fail)
        go_cut [] (fun wx => Below w.heap.size w wx)
        case first =>
          rcases HT with ⟨rfl, hl, hT⟩ | ⟨rfl, hl, -⟩
          · have hgt := gots_told HW.out hl
            rw [← hT] at hgt
            have hT64 : T.length = 64 := by rw [hT, List.length_append, pby_length, zeros_length]; omega
            have HGT := Lib.hid hgt
            have HTT := Lib.hid hT
            have HT64 := Lib.hid hT64
            clear hgt hT hT64
            go_wp2_with fail
            refine (told_yes T HT64.out _).mono ?_
            rw [HGT.out]
            rintro e w2 ⟨⟨v2, rfl, hown⟩, hB2⟩
            obtain ⟨g, cap2, cur, rfl, hgb, hgc, hcap2, hgx⟩ := own_cap (n := 31) hown
            have HGX := Lib.hid hgx
            have B2 := bt hB1 hB2
            clear hgx hown hB2
            go_wp2_with fail
            go_loopw [9] (fun v wr => ∃ k : Nat, k ≤ 32 ∧ v = .int .i64 k ∧ wr.heap = w2.heap ∧ Below w.heap.size w wr) (fun v _ => 32 - (intOf v).toNat)
            case atStart => exact ⟨0, by omega, rfl, rfl, B2⟩
            case round =>
              obtain ⟨k, hk, rfl, hwr, hBr⟩ := hrel
              have HWR := Lib.hid hwr
              by_cases hlt : k < 32
              · have hm := (World.cell?_of_block (w := w2) (w' := wr) (a := ⟨g, k, none⟩) (by rw [hwr])).trans ((cl_of hgc k).trans (HGX.out k _ (tolds_get zs hl hlt)))
                clear hwr
                have i0 : (0 : Int) ≤ (k : Int) := by omega
                have i1 : (k : Int) < 32 := by omega
                by_cases hkl : k < zs.length
                · obtain ⟨b, off, rfl, hbl, hcell⟩ := HC.out (by omega)
                  have hc := (hBr.cell (p := ⟨b, off + k, none⟩) hbl).trans (hcell k hkl)
                  rw [if_pos hkl] at hm
                  clear hcell
                  generalize zs.getD k 0 = B at *
                  have hkb : decide (k < zs.length) = true := decide_eq_true hkl
                  have hkc : decide (zs.length ≤ k) = false := decide_eq_false (by omega)
                  have i2 : (k : Int) < (zs.length : Int) := by omega
                  go_wp2_with fail
                  go_quiet (fail)
                  go_wp2_with fail
                  go_roundw
                  case rel => exact ⟨k + 1, by omega, by go_num, HWR.out, hBr.trans ⟨rfl, rfl, rfl, Nat.le_refl _, fun _ _ => rfl⟩⟩
                  case measure => simp [intOf]; omega
                · rw [if_neg hkl] at hm
                  have hkb : decide (k < zs.length) = false := decide_eq_false hkl
                  have hkc : decide (zs.length ≤ k) = true := decide_eq_true (by omega)
                  have i2 : (zs.length : Int) ≤ (k : Int) := by omega
                  go_wp2_with fail
                  go_quiet (fail)
                  go_wp2_with fail
                  go_roundw
                  case rel => exact ⟨k + 1, by omega, by go_num, HWR.out, hBr.trans ⟨rfl, rfl, rfl, Nat.le_refl _, fun _ _ => rfl⟩⟩
                  case measure => simp [intOf]; omega
              · obtain rfl : k = 32 := by omega
                clear hwr
                go_wp2_with fail
                go_meet
                exact hBr
          · go_wp2_with fail
            go_meet
            exact hB1
        case rest =>
          clear HT HV HC HW hB1
          by_cases h64 : l.length < 64
          · go_wp2_with fail
            refine (told_end l h64 _).mono ?_
            rintro e w5 ⟨rfl, rfl⟩
            go_wp2_with fail
            refine (alive07 _).mono ?_
            rintro e w6 ⟨rfl, hB6⟩
            go_wp2_with fail
            go_ret
            exact ⟨rfl, bt hcut hB6⟩
          · by_cases h65 : 64 < l.length
            · go_wp2_with fail
              refine (told_form l h65 _).mono ?_
              rintro e w5 ⟨rfl, rfl⟩
              go_wp2_with fail
              refine (alive07 _).mono ?_
              rintro e w6 ⟨rfl, hB6⟩
              go_wp2_with fail
              go_ret
              exact ⟨rfl, bt hcut hB6⟩
            · have hll : l.length = 64 := by omega
              have hpg := pby_gots 32 l hll
              have hgl := gots_length l
              rw [hll] at hgl
              have hgw := gots_wf l
              have HPG := Lib.hid hpg
              have HGL := Lib.hid hgl
              have HGW := Lib.hid hgw
              clear hpg hgl hgw
              go_wp2_with fail
              refine (told_yes l hll _).mono ?_
              rintro e w5 ⟨⟨v2, rfl, hown⟩, hB5⟩
              obtain ⟨g, cap2, cur, rfl, hgb, hgc, hcap2, hgx⟩ := own_cap (n := 31) hown
              have hsl5 : SlI .u16 w5 (.slice (some ⟨g, 0, none⟩) 32 cap2) (gots l) := by
                have := sli_row (cap := cap2) hgc hgx HGW.out
                rw [HGL.out] at this
                exact this
              have HS5 := Lib.hid hsl5
              clear hsl5 hgx hown
              go_wp2_with fail
              refine (tell_any HS5.out (by rw [HGL.out]; decide)).mono ?_
              rw [HPG.out, HGL.out]
              have hz : l ++ zeros (64 - 2 * (64 / 2)) = l := by show l ++ [] = l; simp
              rw [hz]
              clear hz
              rintro e w6 ⟨rfl, hB6⟩
              go_wp2_with fail
              refine (alive07 _).mono ?_
              rintro e w7 ⟨rfl, hB7⟩
              go_wp2_with fail
              go_ret
              exact ⟨rfl, bt (bt (bt hcut hB5) hB6) hB7⟩
end Go.Proofs.Ytcdmipgopffaaaa
