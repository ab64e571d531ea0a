/- The document's answer for package inode: the walk through May. -/
import Derived.Test.YtcdmipgopffaaaaInoRef
import Derived.Test.YtcdmipgopffaaaaNamed
namespace Go.Proofs.Ytcdmipgopffaaaa
open Go.RowKit
set_option maxRecDepth 20000
set_option linter.unusedVariables false
set_option linter.unusedSimpArgs false
attribute [local go_sem ↓] eq_ino

set_option maxHeartbeats 1000000 in
theorem rmay_free (x : Ino) (hk : x.k = 0) (w : World) : Calls Try.prog 39 #[.agg (ic x)] w fun e w' => e = .returned (.bool (ieq x Ino.zero)) ∧ Below w.heap.size w w' := by
  have he := fun W => eq_ino x Ino.zero W
  have hk0 : (x.k == 0) = true := by simp [hk]
  generalize ieq x Ino.zero = q at *
  unfold ic
  dsimp only [Ino.zero] at he
  clear hk
  go_enter Try.func39, Try.ntmps39
  go_wp2_with fail
  go_ret
  exact ⟨rfl, bnew _ _⟩

set_option maxHeartbeats 1000000 in
theorem rmay_bad (x : Ino) (hw : x.Wf) (hk : x.k ≠ 0) (h : 2 < x.k ∨ 200 < x.l ∨ 2304 < x.s ∨ (x.k = 2 ∧ x.s % 64 ≠ 0)) (w : World) : Calls Try.prog 39 #[.agg (ic x)] w fun e w' => e = .returned (.bool false) ∧ Below w.heap.size w w' := by
  have hk0 : (x.k == 0) = false := by simp [hk]
  obtain ⟨wk, wl, ws, -⟩ := hw
  unfold ic
  by_cases h1 : 2 < x.k
  · have d1 : decide (x.k > 2) = true := decide_eq_true h1
    clear h hk
    go_enter Try.func39, Try.ntmps39
    go_wp2_with fail
    go_ret
    exact ⟨rfl, bnew _ _⟩
  have d1 : decide (x.k > 2) = false := decide_eq_false h1
  by_cases h2 : 200 < x.l
  · have d2 : decide (x.l > 200) = true := decide_eq_true h2
    clear h hk
    go_enter Try.func39, Try.ntmps39
    go_wp2_with fail
    go_ret
    exact ⟨rfl, bnew _ _⟩
  have d2 : decide (x.l > 200) = false := decide_eq_false h2
  by_cases h3 : 2304 < x.s
  · have d3 : decide (x.s > 2304) = true := decide_eq_true h3
    clear h hk
    go_enter Try.func39, Try.ntmps39
    go_wp2_with fail
    go_ret
    exact ⟨rfl, bnew _ _⟩
  have d3 : decide (x.s > 2304) = false := decide_eq_false h3
  have h4 : x.k = 2 ∧ x.s % 64 ≠ 0 := by omega
  have d4 : (x.k == 2) = true := by simp [h4.1]
  have d5 : (x.s % 64 != 0) = true := by simpa using h4.2
  clear h hk h4
  go_enter Try.func39, Try.ntmps39
  go_wp2_with fail
  go_ret
  exact ⟨rfl, bnew _ _⟩

theorem ds_cell {W : World} {g : Nat} {x : Ino} (h : W.heap[g]? = some (.cells (u16s x.ds).toArray 40 (0, 0))) {i : Nat} (hi : i < 5) : W.cell? ⟨g, i, none⟩ = some (.int .u16 (x.ds.getD i 0)) := by
  rw [cl_of h, List.getElem?_toArray]
  exact u16s_get _ hi
theorem ds_bd {x : Ino} (hw : x.Wf) (i : Nat) : 0 ≤ x.ds.getD i 0 ∧ x.ds.getD i 0 < 65536 := by
  obtain ⟨-, -, -, h0, h1, h2, h3, h4⟩ := hw
  rcases i with _ | _ | _ | _ | _ | i
  · exact h0
  · exact h1
  · exact h2
  · exact h3
  · exact h4
  · simp [Ino.ds]

set_option maxHeartbeats 4000000 in
theorem rmay_some (x : Ino) (hw : x.Wf) (hk : x.k = 1 ∨ x.k = 2) (hl : x.l ≤ 200) (hs : x.s ≤ 2304) (hd : x.k = 2 → x.s % 64 = 0) (w : World) : Calls Try.prog 39 #[.agg (ic x)] w fun e w' => (∃ m, e = .returned (.bool m) ∧ (m = true ↔ BlksOk x.s x.ds)) ∧ Below w.heap.size w w' := by
  have hk0 : (x.k == 0) = false := by rcases hk with h | h <;> simp [h]
  have d1 : decide (x.k > 2) = false := decide_eq_false (by omega)
  have d2 : decide (x.l > 200) = false := decide_eq_false (by omega)
  have d3 : decide (x.s > 2304) = false := decide_eq_false (by omega)
  have hbd := ds_bd hw
  have HBD := Lib.hid hbd
  obtain ⟨ws0, ws1⟩ := hw.s
  have hbl := rblocks_any x
  have HBL := Lib.hid hbl
  have d4 : ((x.k == 2) = false) ∨ ((x.k == 2) = true ∧ (x.s % 64 != 0) = false) := by
    rcases hk with h | h
    · exact .inl (by simp [h])
    · exact .inr ⟨by simp [h], by simp [hd h]⟩
  clear hk hl hd hbd hbl hw
  unfold ic at HBL ⊢
  have hx0 := hp_new w (.cells #[.int .u8 x.k, .int .u16 x.l, .int .u32 x.s, .int .u16 x.d0, .int .u16 x.d1, .int .u16 x.d2, .int .u16 x.d3, .int .u16 x.n] 51) rfl
  have B0 := bnew w (.cells #[.int .u8 x.k, .int .u16 x.l, .int .u32 x.s, .int .u16 x.d0, .int .u16 x.d1, .int .u16 x.d2, .int .u16 x.d3, .int .u16 x.n] 51)
  have H : Hid (∀ W : World, W.heap[w.heap.size]? = some (.cells #[.int .u8 x.k, .int .u16 x.l, .int .u32 x.s, .int .u16 x.d0, .int .u16 x.d1, .int .u16 x.d2, .int .u16 x.d3, .int .u16 x.n] 51 (0, 0)) → W.cell? ⟨w.heap.size, 2, none⟩ = some (.int .u32 x.s)) := fun W h => cl_of h 2
  rcases d4 with d4 | ⟨d4, d5⟩
  all_goals
    go_enter Try.func39, Try.ntmps39
    go_wp2_with fail
    refine (HBL.out _).mono ?_
    rintro e w1 ⟨⟨g, rfl, hgl, hg⟩, hB1⟩
    have hx1 := bblk hB1 hx0
    have B1 := bt B0 hB1
    clear hB1
    clear hx0 B0
    go_wp2_with fail
    go_loopw [4] (fun v wr => ∃ i : Nat, i ≤ 5 ∧ v = .int .i64 i ∧ Hid (BlksTo x.s x.ds i) ∧ wr.heap[w.heap.size]? = some (.cells #[.int .u8 x.k, .int .u16 x.l, .int .u32 x.s, .int .u16 x.d0, .int .u16 x.d1, .int .u16 x.d2, .int .u16 x.d3, .int .u16 x.n] 51 (0, 0)) ∧ wr.heap[g]? = some (.cells (u16s x.ds).toArray 40 (0, 0)) ∧ Below w.heap.size w wr) (fun v _ => 5 - (intOf v).toNat)
    case atStart => exact ⟨0, by omega, rfl, Lib.hid (fun i hi => by omega), hx1, hg, B1⟩
    case round =>
      obtain ⟨i, hi, rfl, HT, hx, hg2, hB⟩ := hrel
      clear hx1 hg B1
      by_cases hlt : i < 5
      · have d6 : decide ((i : Int) < 5) = true := decide_eq_true (by omega)
        have hci := ds_cell hg2 hlt
        obtain ⟨D0, D1⟩ := HBD.out i
        obtain ⟨D, hD⟩ : ∃ D, x.ds.getD i 0 = D := ⟨_, rfl⟩
        rw [hD] at hci D0 D1
        have HD := Lib.hid hD
        clear hD
        obtain ⟨wo, rfl⟩ : ∃ wo : World, wo = wr := ⟨_, rfl⟩
        go_wp2_with fail
        go_loopw [5] (fun v wr => ∃ k : Nat, k ≤ i ∧ v = .int .i64 k ∧ Hid (∀ j, j < k → D ≠ 0 → x.ds.getD j 0 ≠ D) ∧ wr.heap[w.heap.size]? = some (.cells #[.int .u8 x.k, .int .u16 x.l, .int .u32 x.s, .int .u16 x.d0, .int .u16 x.d1, .int .u16 x.d2, .int .u16 x.d3, .int .u16 x.n] 51 (0, 0)) ∧ wr.heap[g]? = some (.cells (u16s x.ds).toArray 40 (0, 0)) ∧ Below w.heap.size w wr) (fun v _ => i - (intOf v).toNat)
        case atStart => exact ⟨0, by omega, rfl, Lib.hid (fun j hj => by omega), hx, hg2, hB⟩
        case round =>
          obtain ⟨k, hk, rfl, HJ, hx3, hg3, hB3⟩ := hrel
          clear hx hg2 hB hci
          have hci := ds_cell hg3 hlt
          rw [HD.out] at hci
          by_cases hki : k < i
          · have d7 : decide ((k : Int) < (i : Int)) = true := decide_eq_true (by omega)
            have hck := ds_cell hg3 (i := k) (by omega)
            obtain ⟨E0, E1⟩ := HBD.out k
            obtain ⟨E, hE⟩ : ∃ E, x.ds.getD k 0 = E := ⟨_, rfl⟩
            rw [hE] at hck E0 E1
            have HE := Lib.hid hE
            clear hE
            by_cases hD0 : D = 0
            · have d8 : (D != 0) = false := by simp [hD0]
              have HD0 := Lib.hid hD0
              clear hD0
              go_wp2_with fail
              go_quiet (fail)
              go_wp2_with fail
              go_roundw
              case rel => exact ⟨k + 1, by omega, by go_num, Lib.hid (fun j hj hn => absurd HD0.out hn), hx3, hg3, hB3.trans ⟨rfl, rfl, rfl, Nat.le_refl _, fun _ _ => rfl⟩⟩
              case measure => simp [intOf]; omega
            · have d8 : (D != 0) = true := by simp [hD0]
              by_cases hDE : D = E
              · subst hDE
                go_wp2_with fail
                go_quiet (fail)
                go_wp2_with fail
                go_ret
                have hn : ¬ BlksOk x.s x.ds := fun h => (h i hlt (by rw [HD.out]; exact hD0)).2 k hki (by rw [HE.out, HD.out])
                exact ⟨⟨false, rfl, by simp [hn]⟩, hB3.trans ⟨rfl, rfl, rfl, Nat.le_refl _, fun _ _ => rfl⟩⟩
              · have d9 : (D == E) = false := by simpa using hDE
                have HDE := Lib.hid hDE
                clear hD0 hDE
                go_wp2_with fail
                go_quiet (fail)
                go_wp2_with fail
                go_roundw
                case rel =>
                  refine ⟨k + 1, by omega, by go_num, Lib.hid (fun j hj hn => ?_), hx3, hg3, hB3.trans ⟨rfl, rfl, rfl, Nat.le_refl _, fun _ _ => rfl⟩⟩
                  by_cases e : j = k
                  · rw [e, HE.out]; exact fun h => HDE.out h.symm
                  · exact HJ.out j (by omega) hn
                case measure => simp [intOf]; omega
          · obtain rfl : k = i := by omega
            have d7 : decide ((k : Int) < (k : Int)) = false := by simp
            have hcs := H.out _ hx3
            by_cases hD0 : D = 0
            · have d8 : (D != 0) = false := by simp [hD0]
              have HD0 := Lib.hid hD0
              clear hD0
              go_wp2_with fail
              go_roundw
              case rel => exact ⟨k + 1, by omega, by go_num, Lib.hid (HT.out.snoc (fun hn => absurd (HD.out.trans HD0.out) hn)), hx3, hg3, hB3⟩
              case measure => simp [intOf]; omega
            · have d8 : (D != 0) = true := by simp [hD0]
              by_cases h64 : x.s ≤ 64 * (k : Int)
              · have d9 : decide (64 * (k : Int) ≥ x.s) = true := decide_eq_true h64
                have HN := Lib.hid h64
                have HD0 := Lib.hid hD0
                clear h64 hD0
                go_wp2_with fail
                go_ret
                have hn : ¬ BlksOk x.s x.ds := fun h => by
                  have := (h k hlt (by rw [HD.out]; exact HD0.out)).1
                  have := HN.out
                  omega
                exact ⟨⟨false, rfl, by simp [hn]⟩, hB3⟩
              · have d9 : decide (64 * (k : Int) ≥ x.s) = false := decide_eq_false h64
                have HN := Lib.hid h64
                have HD0 := Lib.hid hD0
                clear h64 hD0
                go_wp2_with fail
                go_roundw
                case rel => exact ⟨k + 1, by omega, by go_num, Lib.hid (HT.out.snoc (fun hn => ⟨by have := HN.out; omega, fun j hj => by rw [HD.out]; exact HJ.out j hj HD0.out⟩)), hx3, hg3, hB3⟩
                case measure => simp [intOf]; omega
      · obtain rfl : i = 5 := by omega
        go_wp2_with fail
        go_ret
        exact ⟨⟨true, rfl, iff_of_true rfl HT.out⟩, hB⟩

/-- Which inodes may be. -/
theorem rmay_ino (x : Ino) (hw : x.Wf) : ∃ m : Bool, (m = true ↔ x.May) ∧ ∀ w : World, Calls Try.prog 39 #[.agg (ic x)] w fun e w' => e = .returned (.bool m) ∧ Below w.heap.size w w' := by
  by_cases h0 : x.k = 0
  · refine ⟨ieq x Ino.zero, ?_, rmay_free x h0⟩
    unfold ieq Ino.May
    rw [decide_eq_true_iff]
    exact ⟨.inl, fun h => h.resolve_right (fun e => by omega)⟩
  have hz : x ≠ Ino.zero := fun e => h0 (by rw [e]; rfl)
  by_cases hb : 2 < x.k ∨ 200 < x.l ∨ 2304 < x.s ∨ (x.k = 2 ∧ x.s % 64 ≠ 0)
  · refine ⟨false, ?_, rmay_bad x hw h0 hb⟩
    simp only [Bool.false_eq_true, false_iff]
    rintro (h | ⟨h1, h2, h3, h4, -⟩)
    · exact hz h
    · rcases hb with hb | hb | hb | hb
      · omega
      · omega
      · omega
      · exact hb.2 (h4 hb.1)
  · have hk := hw.k
    have hk12 : x.k = 1 ∨ x.k = 2 := by omega
    have hl : x.l ≤ 200 := by omega
    have hs : x.s ≤ 2304 := by omega
    have hd : x.k = 2 → x.s % 64 = 0 := by omega
    by_cases hB : BlksOk x.s x.ds
    · exact ⟨true, by simp [Ino.May, hk12, hl, hs, hB]; exact .inr hd, fun w => (rmay_some x hw hk12 hl hs hd w).mono (fun e w' ⟨⟨m, he, hm⟩, h2⟩ => ⟨by rw [he, hm.2 hB], h2⟩)⟩
    · refine ⟨false, ?_, fun w => (rmay_some x hw hk12 hl hs hd w).mono (fun e w' ⟨⟨m, he, hm⟩, h2⟩ => ⟨by rw [he, show m = false by cases m; rfl; exact absurd (hm.1 rfl) hB], h2⟩)⟩
      simp only [Bool.false_eq_true, false_iff]
      rintro (h | h)
      · exact hz h
      · exact hB h.2.2.2.2
end Go.Proofs.Ytcdmipgopffaaaa
