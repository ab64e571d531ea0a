/- package lunetteref13: do two cores clash at a cell? -/
import Derived.Test.YthmabnigdnbdkaaRClashPlain
import Derived.Deep.DeepCutAuto
import Derived.Deep.CutBlock
namespace Go.Proofs.Ythmabnigdnbdkaa
open Go.RowKit
set_option maxRecDepth 100000
set_option linter.unusedSimpArgs false

def rpair (a b c : Int) (x y : Touch) : Prop := x.core = a ∧ y.core = b ∧ x.cell = c ∧ y.cell = c ∧ (x.write = true ∨ y.write = true)
set_option maxHeartbeats 8000000 in
theorem clashes_any {w : World} {q : Nat} {vL vS : Value} {on : Bool} {L : List (Int × Int)} {S : List Touch} (h : RefAt w q vL vS on L S) (hn : Few S) (a b c : Int) (r : Bool) (hr : r = true ↔ rcl S a b c) :
    Calls Try.prog 61 #[.pointer (some ⟨q, 0, none⟩), .int .i64 a, .int .i64 b, .int .u64 c] w fun e w' => e = .returned (.bool r) ∧ Fr (fun _ => False) w w' := by
  obtain ⟨ao, cap, hv, hcs⟩ := own_form h.rowS
  have hS := hn.out
  have c1 := cl_of h.obj 1
  have hq := h.lt (.inl rfl)
  rw [hv] at c1
  have hkeep : ∀ W, Fr (fun _ => False) w W → W.cell? ⟨q, 1, none⟩ = some (.slice ao S.length cap) := fun W hf => (hf.cell (p := ⟨q, 1, none⟩) hq id).trans c1
  have HK := Lib.hid hkeep
  have HRR := Lib.hid hr
  clear hr
  have HCS := Lib.hid hcs
  clear h hkeep hcs c1 hv hn
  go_enter Try.func61, Try.ntmps61
  go_wp2_with fail
  go_loopw [9] (fun v9 wr => ∃ i : Nat, i ≤ S.length ∧ v9 = .int .i64 i ∧ Fr (fun _ => False) w wr ∧ Hid (∀ x ∈ S.take i, ∀ y ∈ S, ¬ rpair a b c x y)) (fun v9 _ => S.length - (intOf v9).toNat)
  case atStart => exact ⟨0, by omega, rfl, Fr.refl _ _, Lib.hid (by simp)⟩
  case round =>
    obtain ⟨i, hi, rfl, hf, HN⟩ := hrel
    have f1 := HK.out _ hf
    by_cases hlt : i < S.length
    · go_wp2_with fail
      obtain ⟨wo, rfl⟩ : ∃ wo : World, wo = wr := ⟨_, rfl⟩
      go_loopw [10] (fun v10 wr => ∃ k : Nat, k ≤ S.length ∧ v10 = .int .i64 k ∧ Fr (fun _ => False) w wr ∧ Hid (∀ y ∈ S.take k, ¬ rpair a b c S[i] y)) (fun v10 _ => S.length - (intOf v10).toNat)
      case atStart => exact ⟨0, by omega, rfl, hf, Lib.hid (by simp)⟩
      case round =>
        obtain ⟨k, hk, rfl, hf2, HN2⟩ := hrel
        have g1 := HK.out _ hf2
        clear f1 hf
        by_cases hkl : k < S.length
        · obtain ⟨g, rfl, -, hg, hc⟩ := HCS.out (by omega)
          have HX : Hid (S[i] ∈ S) := Lib.hid (List.getElem_mem hlt)
          have HY : Hid (S[k] ∈ S) := Lib.hid (List.getElem_mem hkl)
          have HT : Hid (∀ z, z ∈ S.take (k + 1) ↔ z ∈ S.take k ∨ z = S[k]) := Lib.hid (fun z => by rw [take_snoc _ _ hkl, List.mem_append, List.mem_singleton])
          obtain ⟨a0, a1, a2⟩ := touches_get S i hlt
          obtain ⟨b0, b1, b2⟩ := touches_get S k hkl
          have x0 := (hf2.cell (p := ⟨g, i * 3, none⟩) hg id).trans (hc _ _ a0)
          have x1 := (hf2.cell (p := ⟨g, i * 3 + 1, none⟩) hg id).trans (hc _ _ a1)
          have x2 := (hf2.cell (p := ⟨g, i * 3 + 2, none⟩) hg id).trans (hc _ _ a2)
          have y0 := (hf2.cell (p := ⟨g, k * 3, none⟩) hg id).trans (hc _ _ b0)
          have y1 := (hf2.cell (p := ⟨g, k * 3 + 1, none⟩) hg id).trans (hc _ _ b1)
          have y2 := (hf2.cell (p := ⟨g, k * 3 + 2, none⟩) hg id).trans (hc _ _ b2)
          clear a0 a1 a2 b0 b1 b2 hc
          generalize S[i] = x at *
          generalize S[k] = y at *
          obtain ⟨xc, xl, xw⟩ := x
          obtain ⟨yc, yl, yw⟩ := y
          dsimp only at x0 x1 x2 y0 y1 y2
          go_upto_region 7 with (fail)
          go_cut [11, 12] (fun s11 s12 wx => ∃ A B : Nat, s11 = .pointer (some ⟨A, 0, none⟩) ∧ s12 = .pointer (some ⟨B, 0, none⟩) ∧ wx.heap[A]? = some (.cells #[.int .i64 xc, .int .u64 xl, .bool xw] 91 (0, 0)) ∧ wx.heap[B]? = some (.cells #[.int .i64 yc, .int .u64 yl, .bool yw] 91 (0, 0)) ∧ Fr (fun _ => False) w wx)
          case first =>
            have hqr : q < wr.heap.size := by have := hf2.size; omega
            have hgr : g < wr.heap.size := by have := hf2.size; omega
            clear HX HY HT HN2 HN HRR HCS HK
            go_region
            · try (go_wp2_with fail)
              go_meet
              refine ⟨_, _, rfl, rfl, ?_, ?_, ?_⟩
              · exact (blk_old (hp_new _ _ rfl) _)
              · exact hp_new (wr.alloc _) _ (by simp)
              · exact hf2.trans (frm_alloc (frm_alloc (Fr.refl _ _) _) _).drew
            · try (go_wp2_with fail)
              go_meet
              refine ⟨_, _, rfl, rfl, ?_, ?_, ?_⟩
              · exact hp_new (wr.alloc _) _ (by simp)
              · exact (blk_old (hp_new _ _ rfl) _)
              · exact hf2.trans (frm_alloc (frm_alloc (Fr.refl _ _) _) _).drew
          case rest =>
            obtain ⟨A, B, rfl, rfl, hA, hB, hf3⟩ := hcut
            clear x0 x1 x2 y0 y1 y2 hf2 g1
            have A0 := cl_of hA 0
            have A1 := cl_of hA 1
            have A2 := cl_of hA 2
            have B0 := cl_of hB 0
            have B1 := cl_of hB 1
            have B2 := cl_of hB 2
            by_cases hp : rpair a b c ⟨xc, xl, xw⟩ ⟨yc, yl, yw⟩
            · have HR : Hid (rcl S a b c) := Lib.hid ⟨_, HX.out, _, HY.out, hp⟩
              have hrt : r = true := HRR.out.2 HR.out
              subst hrt
              clear HRR HR HX HY HT HN2 HN
              obtain ⟨e1, e2, e3, e4, e5⟩ := hp
              dsimp only at e1 e2 e3 e4 e5
              subst e1 e2 e3 e4
              cases xw <;> cases yw <;> first | (exfalso; simp at e5; done) | (go_wp2_with fail; go_ret; exact ⟨rfl, hf3⟩)
            · have HP := Lib.hid hp
              have hres : ((xc == a) && (yc == b) && (xl == c) && (yl == c) && (xw || yw)) = false := by
                rw [Bool.eq_false_iff]
                intro e
                simp only [Bool.and_eq_true, beq_iff_eq, Bool.or_eq_true] at e
                exact hp ⟨e.1.1.1.1, e.1.1.1.2, e.1.1.2, e.1.2, e.2⟩
              clear hp
              have HN3 : Hid (∀ z ∈ S.take (k + 1), ¬ rpair a b c ⟨xc, xl, xw⟩ z) := Lib.hid (fun z hz => by
                rcases (HT.out z).1 hz with hz | rfl
                · exact HN2.out z hz
                · exact HP.out)
              clear HX HY HT HN2 HP
              cases hp1 : (xc == a) <;> cases hp2 : (yc == b) <;> cases hp3 : (xl == c) <;> cases hp4 : (yl == c) <;> cases xw <;> cases yw <;> first | (exfalso; simp [hp1, hp2, hp3, hp4] at hres; done) | (go_wp2_with fail; go_roundw; (case rel => exact ⟨k + 1, by omega, by go_num, hf3, HN3⟩); (case measure => simp [intOf]; omega))
        · obtain rfl : k = S.length := by omega
          have HN4 : Hid (∀ x ∈ S.take (i + 1), ∀ y ∈ S, ¬ rpair a b c x y) := Lib.hid (fun x hx y hy => by
            rw [take_snoc _ _ hlt] at hx
            rcases List.mem_append.1 hx with hx | hx
            · exact HN.out x hx y hy
            · rw [List.mem_singleton] at hx
              subst hx
              exact HN2.out y (by rwa [List.take_length]))
          clear HN2 HN
          go_wp2_with fail
          go_roundw
          case rel => exact ⟨i + 1, by omega, by go_num, hf2, HN4⟩
          case measure => simp [intOf]; omega
    · obtain rfl : i = S.length := by omega
      have HR : Hid (¬ rcl S a b c) := Lib.hid (fun ⟨x, hx, y, hy, hp⟩ => HN.out x (by rwa [List.take_length]) y hy hp)
      have hrf : r = false := by rw [Bool.eq_false_iff]; exact fun e => HR.out (HRR.out.1 e)
      subst hrf
      clear HN HR HRR
      go_wp2_with fail
      go_ret
      exact ⟨rfl, hf⟩
end Go.Proofs.Ythmabnigdnbdkaa
