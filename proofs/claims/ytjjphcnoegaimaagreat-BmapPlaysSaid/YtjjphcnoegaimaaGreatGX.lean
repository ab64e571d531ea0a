/- Package bmap: may in all cases; what is refused: Get, Set, Begin, Cut. Package bmap: what is refused (Get, Set, Begin, Cut); what nil answers; tell, Set, Begin where nothing fits. -/
import Derived.Test.YtjjphcnoegaimaaGreatHC
namespace Go.Proofs.YtjjphcnoegaimaaGreat
open Go.RowKit Go.Shelf Go.Maps
set_option maxRecDepth 20000
set_option linter.unusedVariables false
set_option linter.unusedSimpArgs false

set_option maxHeartbeats 8000000 in
theorem bmay_any {i b j v : Int} {x : Ino} (hx : x.Wf) (h0 : 0 ≤ v) (h1 : v < 65536) {tb : Nat} (is r : Bool) (hr : r = true ↔ (MayB i b j x v ∧ is = true)) (w : World) : Calls Tryz.prog 56 #[.pointer (some ⟨tb, 0, none⟩), gv i b j, .agg (ic x), .int .u16 v, .bool is] w fun e w' => e = .returned (.int .i64 (if r then 0 else 2)) ∧ Below w.heap.size w w' := by
  unfold gv ic
  have HR := Lib.hid hr
  have HX := Lib.hid hx
  have hd : ∀ k, k < 4 → 0 ≤ x.d k ∧ x.d k < 65536 := fun k hk => by
    have : k = 0 ∨ k = 1 ∨ k = 2 ∨ k = 3 := by omega
    rcases this with rfl | rfl | rfl | rfl
    · exact hx.d0
    · exact hx.d1
    · exact hx.d2
    · exact hx.d3
  have HD := Lib.hid hd
  clear hx hd hr
  by_cases hg : Mays i b j
  rotate_left
  · have HM : Hid (∀ w, Calls Tryz.prog 24 #[.agg #[.int .i64 i, .int .i64 b, .int .i64 j]] w fun e w' => e = .returned (.bool false) ∧ Below w.heap.size w w') := Lib.hid (fun w => geo_may_no hg w)
    have HG := Lib.hid hg
    clear hg
    go_enter Tryz.func56, Tryz.ntmps56
    go_wp2_with fail
    have hB1 : Below w.heap.size w ((w.alloc (.cells #[.int .i64 i, .int .i64 b, .int .i64 j] 56)).alloc (.cells #[.int .u8 x.k, .int .u16 x.l, .int .u32 x.s, .int .u16 x.d0, .int .u16 x.d1, .int .u16 x.d2, .int .u16 x.d3, .int .u16 x.n] 61)) := bal (bnew _ _) _
    have b6 := hp_old (w.alloc (.cells #[.int .i64 i, .int .i64 b, .int .i64 j] 56)) (.cells #[.int .u8 x.k, .int .u16 x.l, .int .u32 x.s, .int .u16 x.d0, .int .u16 x.d1, .int .u16 x.d2, .int .u16 x.d3, .int .u16 x.n] 61) (k := w.heap.size) (by simp)
    rw [hp_new w _ rfl] at b6
    have b7 := hp_new (w.alloc (.cells #[.int .i64 i, .int .i64 b, .int .i64 j] 56)) (.cells #[.int .u8 x.k, .int .u16 x.l, .int .u32 x.s, .int .u16 x.d0, .int .u16 x.d1, .int .u16 x.d2, .int .u16 x.d3, .int .u16 x.n] 61) (k := w.heap.size + 1) (by simp)
    obtain ⟨W1, hW1⟩ : ∃ W1, (w.alloc (.cells #[.int .i64 i, .int .i64 b, .int .i64 j] 56)).alloc (.cells #[.int .u8 x.k, .int .u16 x.l, .int .u32 x.s, .int .u16 x.d0, .int .u16 x.d1, .int .u16 x.d2, .int .u16 x.d3, .int .u16 x.n] 61) = W1 := ⟨_, rfl⟩
    rw [hW1] at hB1 b6 b7
    simp only [hW1]
    clear hW1
    refine (HM.out _).mono ?_
    rintro e w2 ⟨rfl, hB2⟩
    have HB2 := Lib.hid (bt hB1 hB2)
    have c6 := bblk hB2 b6
    have c7 := bblk hB2 b7
    clear hB1 hB2 b6 b7
    have p1 := cl_of c6 1
    have q3 := cl_of c7 3
    have q4 := cl_of c7 4
    have q5 := cl_of c7 5
    have q6 := cl_of c7 6
    have q7 := cl_of c7 7
    go_wp2_with fail
    have HO0 : Hid ((false : Bool) = true ↔ Mays i b j ∧ v ≤ b ∧ x.n ≤ b ∧ is = true) := Lib.hid (by exact ⟨fun h => (by cases h), fun h => absurd h.1 (by have := HG.out; first | exact this | omega)⟩)
    go_loopw [12, 14, 36] (fun v12 _ v36 wr => ∃ (k : Nat) (o : Bool), k ≤ 4 ∧ v36 = .int .i64 k ∧ v12 = .bool o ∧ wr = w2 ∧ Hid (o = true ↔ ((false : Bool) = true ∧ ∀ y, y < k → x.d y ≤ b))) (fun _ _ v36 _ => 4 - (intOf v36).toNat)
    case atStart => exact ⟨0, false, Nat.zero_le _, rfl, rfl, rfl, Lib.hid (by simp)⟩
    case round =>
      obtain ⟨k, o, hk, rfl, rfl, rfl, HO⟩ := hrel
      by_cases hlt : k < 4
      · have hd := dir_at x hlt wr
        have hdk := HD.out k hlt
        cases o
        · have HO2 : Hid ((false : Bool) = true ↔ ((false : Bool) = true ∧ ∀ y, y < k + 1 → x.d y ≤ b)) := Lib.hid ⟨fun h => (by cases h), fun h => HO.out.2 ⟨h.1, fun y hy => h.2 y (by omega)⟩⟩
          go_wp2_with fail
          go_roundw
          case rel => exact ⟨k + 1, false, by omega, by go_num, rfl, trivial, HO2⟩
          case measure => simp [intOf]; omega
        · have hh := has_any p1 hdk.1 hdk.2 (decide (x.d k ≤ b)) rfl
          have HO2 : Hid ((decide (x.d k ≤ b)) = true ↔ ((false : Bool) = true ∧ ∀ y, y < k + 1 → x.d y ≤ b)) := Lib.hid (by
            have h1 := (HO.out.1 rfl)
            constructor
            · intro h
              refine ⟨h1.1, fun y hy => ?_⟩
              rcases Nat.lt_or_ge y k with h2 | h2
              · exact h1.2 y h2
              · obtain rfl : y = k := by omega
                simpa using h
            · intro h
              simpa using h.2 k (by omega))
          generalize decide (x.d k ≤ b) = c at *
          have HHH := Lib.hid hh
          clear hh hdk
          go_wp2_with fail
          refine HHH.out.mono ?_
          rintro e w3 ⟨rfl, rfl⟩
          go_wp2_with fail
          go_roundw
          case rel => exact ⟨k + 1, c, by omega, by go_num, rfl, trivial, HO2⟩
          case measure => simp [intOf]; omega
      · obtain rfl : k = 4 := by omega
        have hor : o = r := Bool.eq_iff_iff.2 ⟨fun h => HR.out.2 ⟨⟨(HO0.out.1 (HO.out.1 h).1).1, (HO0.out.1 (HO.out.1 h).1).2.1, (HO0.out.1 (HO.out.1 h).1).2.2.1, (HO.out.1 h).2⟩, (HO0.out.1 (HO.out.1 h).1).2.2.2⟩, fun h => HO.out.2 ⟨HO0.out.2 ⟨(HR.out.1 h).1.g, (HR.out.1 h).1.v, (HR.out.1 h).1.n, (HR.out.1 h).2⟩, (HR.out.1 h).1.d⟩⟩
        subst hor
        cases o
        · go_wp2_with fail
          go_ret
          exact ⟨rfl, HB2.out⟩
        · go_wp2_with fail
          go_ret
          exact ⟨rfl, HB2.out⟩
  have HM : Hid (∀ w, Calls Tryz.prog 24 #[.agg #[.int .i64 i, .int .i64 b, .int .i64 j]] w fun e w' => e = .returned (.bool true) ∧ Below w.heap.size w w') := Lib.hid (fun w => geo_may_yes hg w)
  have HG := Lib.hid hg
  clear hg
  by_cases hv : v ≤ b
  rotate_left
  · have HV := Lib.hid hv
    clear hv
    go_enter Tryz.func56, Tryz.ntmps56
    go_wp2_with fail
    have hB1 : Below w.heap.size w ((w.alloc (.cells #[.int .i64 i, .int .i64 b, .int .i64 j] 56)).alloc (.cells #[.int .u8 x.k, .int .u16 x.l, .int .u32 x.s, .int .u16 x.d0, .int .u16 x.d1, .int .u16 x.d2, .int .u16 x.d3, .int .u16 x.n] 61)) := bal (bnew _ _) _
    have b6 := hp_old (w.alloc (.cells #[.int .i64 i, .int .i64 b, .int .i64 j] 56)) (.cells #[.int .u8 x.k, .int .u16 x.l, .int .u32 x.s, .int .u16 x.d0, .int .u16 x.d1, .int .u16 x.d2, .int .u16 x.d3, .int .u16 x.n] 61) (k := w.heap.size) (by simp)
    rw [hp_new w _ rfl] at b6
    have b7 := hp_new (w.alloc (.cells #[.int .i64 i, .int .i64 b, .int .i64 j] 56)) (.cells #[.int .u8 x.k, .int .u16 x.l, .int .u32 x.s, .int .u16 x.d0, .int .u16 x.d1, .int .u16 x.d2, .int .u16 x.d3, .int .u16 x.n] 61) (k := w.heap.size + 1) (by simp)
    obtain ⟨W1, hW1⟩ : ∃ W1, (w.alloc (.cells #[.int .i64 i, .int .i64 b, .int .i64 j] 56)).alloc (.cells #[.int .u8 x.k, .int .u16 x.l, .int .u32 x.s, .int .u16 x.d0, .int .u16 x.d1, .int .u16 x.d2, .int .u16 x.d3, .int .u16 x.n] 61) = W1 := ⟨_, rfl⟩
    rw [hW1] at hB1 b6 b7
    simp only [hW1]
    clear hW1
    refine (HM.out _).mono ?_
    rintro e w2 ⟨rfl, hB2⟩
    have HB2 := Lib.hid (bt hB1 hB2)
    have c6 := bblk hB2 b6
    have c7 := bblk hB2 b7
    clear hB1 hB2 b6 b7
    have p1 := cl_of c6 1
    have q3 := cl_of c7 3
    have q4 := cl_of c7 4
    have q5 := cl_of c7 5
    have q6 := cl_of c7 6
    have q7 := cl_of c7 7
    go_wp2_with fail
    refine (has_any p1 h0 h1 false (decide_eq_false (by have := HV.out; omega))).mono ?_
    rintro e w3 ⟨rfl, rfl⟩
    go_wp2_with fail
    have HO0 : Hid ((false : Bool) = true ↔ Mays i b j ∧ v ≤ b ∧ x.n ≤ b ∧ is = true) := Lib.hid (by exact ⟨fun h => (by cases h), fun h => absurd h.2.1 (by have := HV.out; first | exact this | omega)⟩)
    go_loopw [12, 14, 36] (fun v12 _ v36 wr => ∃ (k : Nat) (o : Bool), k ≤ 4 ∧ v36 = .int .i64 k ∧ v12 = .bool o ∧ wr = w2 ∧ Hid (o = true ↔ ((false : Bool) = true ∧ ∀ y, y < k → x.d y ≤ b))) (fun _ _ v36 _ => 4 - (intOf v36).toNat)
    case atStart => exact ⟨0, false, Nat.zero_le _, rfl, rfl, rfl, Lib.hid (by simp)⟩
    case round =>
      obtain ⟨k, o, hk, rfl, rfl, rfl, HO⟩ := hrel
      by_cases hlt : k < 4
      · have hd := dir_at x hlt wr
        have hdk := HD.out k hlt
        cases o
        · have HO2 : Hid ((false : Bool) = true ↔ ((false : Bool) = true ∧ ∀ y, y < k + 1 → x.d y ≤ b)) := Lib.hid ⟨fun h => (by cases h), fun h => HO.out.2 ⟨h.1, fun y hy => h.2 y (by omega)⟩⟩
          go_wp2_with fail
          go_roundw
          case rel => exact ⟨k + 1, false, by omega, by go_num, rfl, trivial, HO2⟩
          case measure => simp [intOf]; omega
        · have hh := has_any p1 hdk.1 hdk.2 (decide (x.d k ≤ b)) rfl
          have HO2 : Hid ((decide (x.d k ≤ b)) = true ↔ ((false : Bool) = true ∧ ∀ y, y < k + 1 → x.d y ≤ b)) := Lib.hid (by
            have h1 := (HO.out.1 rfl)
            constructor
            · intro h
              refine ⟨h1.1, fun y hy => ?_⟩
              rcases Nat.lt_or_ge y k with h2 | h2
              · exact h1.2 y h2
              · obtain rfl : y = k := by omega
                simpa using h
            · intro h
              simpa using h.2 k (by omega))
          generalize decide (x.d k ≤ b) = c at *
          have HHH := Lib.hid hh
          clear hh hdk
          go_wp2_with fail
          refine HHH.out.mono ?_
          rintro e w3 ⟨rfl, rfl⟩
          go_wp2_with fail
          go_roundw
          case rel => exact ⟨k + 1, c, by omega, by go_num, rfl, trivial, HO2⟩
          case measure => simp [intOf]; omega
      · obtain rfl : k = 4 := by omega
        have hor : o = r := Bool.eq_iff_iff.2 ⟨fun h => HR.out.2 ⟨⟨(HO0.out.1 (HO.out.1 h).1).1, (HO0.out.1 (HO.out.1 h).1).2.1, (HO0.out.1 (HO.out.1 h).1).2.2.1, (HO.out.1 h).2⟩, (HO0.out.1 (HO.out.1 h).1).2.2.2⟩, fun h => HO.out.2 ⟨HO0.out.2 ⟨(HR.out.1 h).1.g, (HR.out.1 h).1.v, (HR.out.1 h).1.n, (HR.out.1 h).2⟩, (HR.out.1 h).1.d⟩⟩
        subst hor
        cases o
        · go_wp2_with fail
          go_ret
          exact ⟨rfl, HB2.out⟩
        · go_wp2_with fail
          go_ret
          exact ⟨rfl, HB2.out⟩
  have HV := Lib.hid hv
  clear hv
  by_cases hn : x.n ≤ b
  rotate_left
  · have HN := Lib.hid hn
    clear hn
    go_enter Tryz.func56, Tryz.ntmps56
    go_wp2_with fail
    have hB1 : Below w.heap.size w ((w.alloc (.cells #[.int .i64 i, .int .i64 b, .int .i64 j] 56)).alloc (.cells #[.int .u8 x.k, .int .u16 x.l, .int .u32 x.s, .int .u16 x.d0, .int .u16 x.d1, .int .u16 x.d2, .int .u16 x.d3, .int .u16 x.n] 61)) := bal (bnew _ _) _
    have b6 := hp_old (w.alloc (.cells #[.int .i64 i, .int .i64 b, .int .i64 j] 56)) (.cells #[.int .u8 x.k, .int .u16 x.l, .int .u32 x.s, .int .u16 x.d0, .int .u16 x.d1, .int .u16 x.d2, .int .u16 x.d3, .int .u16 x.n] 61) (k := w.heap.size) (by simp)
    rw [hp_new w _ rfl] at b6
    have b7 := hp_new (w.alloc (.cells #[.int .i64 i, .int .i64 b, .int .i64 j] 56)) (.cells #[.int .u8 x.k, .int .u16 x.l, .int .u32 x.s, .int .u16 x.d0, .int .u16 x.d1, .int .u16 x.d2, .int .u16 x.d3, .int .u16 x.n] 61) (k := w.heap.size + 1) (by simp)
    obtain ⟨W1, hW1⟩ : ∃ W1, (w.alloc (.cells #[.int .i64 i, .int .i64 b, .int .i64 j] 56)).alloc (.cells #[.int .u8 x.k, .int .u16 x.l, .int .u32 x.s, .int .u16 x.d0, .int .u16 x.d1, .int .u16 x.d2, .int .u16 x.d3, .int .u16 x.n] 61) = W1 := ⟨_, rfl⟩
    rw [hW1] at hB1 b6 b7
    simp only [hW1]
    clear hW1
    refine (HM.out _).mono ?_
    rintro e w2 ⟨rfl, hB2⟩
    have HB2 := Lib.hid (bt hB1 hB2)
    have c6 := bblk hB2 b6
    have c7 := bblk hB2 b7
    clear hB1 hB2 b6 b7
    have p1 := cl_of c6 1
    have q3 := cl_of c7 3
    have q4 := cl_of c7 4
    have q5 := cl_of c7 5
    have q6 := cl_of c7 6
    have q7 := cl_of c7 7
    go_wp2_with fail
    refine (has_any p1 h0 h1 true (decide_eq_true HV.out)).mono ?_
    rintro e w3 ⟨rfl, rfl⟩
    go_wp2_with fail
    refine (has_any p1 HX.out.n.1 HX.out.n.2 false (decide_eq_false (by have := HN.out; omega))).mono ?_
    rintro e w3 ⟨rfl, rfl⟩
    go_wp2_with fail
    have HO0 : Hid ((false : Bool) = true ↔ Mays i b j ∧ v ≤ b ∧ x.n ≤ b ∧ is = true) := Lib.hid (by exact ⟨fun h => (by cases h), fun h => absurd h.2.2.1 (by have := HN.out; first | exact this | omega)⟩)
    go_loopw [12, 14, 36] (fun v12 _ v36 wr => ∃ (k : Nat) (o : Bool), k ≤ 4 ∧ v36 = .int .i64 k ∧ v12 = .bool o ∧ wr = w2 ∧ Hid (o = true ↔ ((false : Bool) = true ∧ ∀ y, y < k → x.d y ≤ b))) (fun _ _ v36 _ => 4 - (intOf v36).toNat)
    case atStart => exact ⟨0, false, Nat.zero_le _, rfl, rfl, rfl, Lib.hid (by simp)⟩
    case round =>
      obtain ⟨k, o, hk, rfl, rfl, rfl, HO⟩ := hrel
      by_cases hlt : k < 4
      · have hd := dir_at x hlt wr
        have hdk := HD.out k hlt
        cases o
        · have HO2 : Hid ((false : Bool) = true ↔ ((false : Bool) = true ∧ ∀ y, y < k + 1 → x.d y ≤ b)) := Lib.hid ⟨fun h => (by cases h), fun h => HO.out.2 ⟨h.1, fun y hy => h.2 y (by omega)⟩⟩
          go_wp2_with fail
          go_roundw
          case rel => exact ⟨k + 1, false, by omega, by go_num, rfl, trivial, HO2⟩
          case measure => simp [intOf]; omega
        · have hh := has_any p1 hdk.1 hdk.2 (decide (x.d k ≤ b)) rfl
          have HO2 : Hid ((decide (x.d k ≤ b)) = true ↔ ((false : Bool) = true ∧ ∀ y, y < k + 1 → x.d y ≤ b)) := Lib.hid (by
            have h1 := (HO.out.1 rfl)
            constructor
            · intro h
              refine ⟨h1.1, fun y hy => ?_⟩
              rcases Nat.lt_or_ge y k with h2 | h2
              · exact h1.2 y h2
              · obtain rfl : y = k := by omega
                simpa using h
            · intro h
              simpa using h.2 k (by omega))
          generalize decide (x.d k ≤ b) = c at *
          have HHH := Lib.hid hh
          clear hh hdk
          go_wp2_with fail
          refine HHH.out.mono ?_
          rintro e w3 ⟨rfl, rfl⟩
          go_wp2_with fail
          go_roundw
          case rel => exact ⟨k + 1, c, by omega, by go_num, rfl, trivial, HO2⟩
          case measure => simp [intOf]; omega
      · obtain rfl : k = 4 := by omega
        have hor : o = r := Bool.eq_iff_iff.2 ⟨fun h => HR.out.2 ⟨⟨(HO0.out.1 (HO.out.1 h).1).1, (HO0.out.1 (HO.out.1 h).1).2.1, (HO0.out.1 (HO.out.1 h).1).2.2.1, (HO.out.1 h).2⟩, (HO0.out.1 (HO.out.1 h).1).2.2.2⟩, fun h => HO.out.2 ⟨HO0.out.2 ⟨(HR.out.1 h).1.g, (HR.out.1 h).1.v, (HR.out.1 h).1.n, (HR.out.1 h).2⟩, (HR.out.1 h).1.d⟩⟩
        subst hor
        cases o
        · go_wp2_with fail
          go_ret
          exact ⟨rfl, HB2.out⟩
        · go_wp2_with fail
          go_ret
          exact ⟨rfl, HB2.out⟩
  have HN := Lib.hid hn
  clear hn
  have HIS : Hid (is = true ↔ Mays i b j ∧ v ≤ b ∧ x.n ≤ b ∧ is = true) := Lib.hid ⟨fun h => ⟨HG.out, HV.out, HN.out, h⟩, fun h => h.2.2.2⟩
  go_enter Tryz.func56, Tryz.ntmps56
  go_wp2_with fail
  have hB1 : Below w.heap.size w ((w.alloc (.cells #[.int .i64 i, .int .i64 b, .int .i64 j] 56)).alloc (.cells #[.int .u8 x.k, .int .u16 x.l, .int .u32 x.s, .int .u16 x.d0, .int .u16 x.d1, .int .u16 x.d2, .int .u16 x.d3, .int .u16 x.n] 61)) := bal (bnew _ _) _
  have b6 := hp_old (w.alloc (.cells #[.int .i64 i, .int .i64 b, .int .i64 j] 56)) (.cells #[.int .u8 x.k, .int .u16 x.l, .int .u32 x.s, .int .u16 x.d0, .int .u16 x.d1, .int .u16 x.d2, .int .u16 x.d3, .int .u16 x.n] 61) (k := w.heap.size) (by simp)
  rw [hp_new w _ rfl] at b6
  have b7 := hp_new (w.alloc (.cells #[.int .i64 i, .int .i64 b, .int .i64 j] 56)) (.cells #[.int .u8 x.k, .int .u16 x.l, .int .u32 x.s, .int .u16 x.d0, .int .u16 x.d1, .int .u16 x.d2, .int .u16 x.d3, .int .u16 x.n] 61) (k := w.heap.size + 1) (by simp)
  obtain ⟨W1, hW1⟩ : ∃ W1, (w.alloc (.cells #[.int .i64 i, .int .i64 b, .int .i64 j] 56)).alloc (.cells #[.int .u8 x.k, .int .u16 x.l, .int .u32 x.s, .int .u16 x.d0, .int .u16 x.d1, .int .u16 x.d2, .int .u16 x.d3, .int .u16 x.n] 61) = W1 := ⟨_, rfl⟩
  rw [hW1] at hB1 b6 b7
  simp only [hW1]
  clear hW1
  refine (HM.out _).mono ?_
  rintro e w2 ⟨rfl, hB2⟩
  have HB2 := Lib.hid (bt hB1 hB2)
  have c6 := bblk hB2 b6
  have c7 := bblk hB2 b7
  clear hB1 hB2 b6 b7
  have p1 := cl_of c6 1
  have q3 := cl_of c7 3
  have q4 := cl_of c7 4
  have q5 := cl_of c7 5
  have q6 := cl_of c7 6
  have q7 := cl_of c7 7
  go_wp2_with fail
  refine (has_any p1 h0 h1 true (decide_eq_true HV.out)).mono ?_
  rintro e w3 ⟨rfl, rfl⟩
  go_wp2_with fail
  refine (has_any p1 HX.out.n.1 HX.out.n.2 true (decide_eq_true HN.out)).mono ?_
  rintro e w3 ⟨rfl, rfl⟩
  go_wp2_with fail
  have HO0 : Hid ((is : Bool) = true ↔ Mays i b j ∧ v ≤ b ∧ x.n ≤ b ∧ is = true) := Lib.hid (by exact HIS.out)
  go_loopw [12, 14, 36] (fun v12 _ v36 wr => ∃ (k : Nat) (o : Bool), k ≤ 4 ∧ v36 = .int .i64 k ∧ v12 = .bool o ∧ wr = w2 ∧ Hid (o = true ↔ ((is : Bool) = true ∧ ∀ y, y < k → x.d y ≤ b))) (fun _ _ v36 _ => 4 - (intOf v36).toNat)
  case atStart => exact ⟨0, is, Nat.zero_le _, rfl, rfl, rfl, Lib.hid (by simp)⟩
  case round =>
    obtain ⟨k, o, hk, rfl, rfl, rfl, HO⟩ := hrel
    by_cases hlt : k < 4
    · have hd := dir_at x hlt wr
      have hdk := HD.out k hlt
      cases o
      · have HO2 : Hid ((false : Bool) = true ↔ ((is : Bool) = true ∧ ∀ y, y < k + 1 → x.d y ≤ b)) := Lib.hid ⟨fun h => (by cases h), fun h => HO.out.2 ⟨h.1, fun y hy => h.2 y (by omega)⟩⟩
        go_wp2_with fail
        go_roundw
        case rel => exact ⟨k + 1, false, by omega, by go_num, rfl, trivial, HO2⟩
        case measure => simp [intOf]; omega
      · have hh := has_any p1 hdk.1 hdk.2 (decide (x.d k ≤ b)) rfl
        have HO2 : Hid ((decide (x.d k ≤ b)) = true ↔ ((is : Bool) = true ∧ ∀ y, y < k + 1 → x.d y ≤ b)) := Lib.hid (by
          have h1 := (HO.out.1 rfl)
          constructor
          · intro h
            refine ⟨h1.1, fun y hy => ?_⟩
            rcases Nat.lt_or_ge y k with h2 | h2
            · exact h1.2 y h2
            · obtain rfl : y = k := by omega
              simpa using h
          · intro h
            simpa using h.2 k (by omega))
        generalize decide (x.d k ≤ b) = c at *
        have HHH := Lib.hid hh
        clear hh hdk
        go_wp2_with fail
        refine HHH.out.mono ?_
        rintro e w3 ⟨rfl, rfl⟩
        go_wp2_with fail
        go_roundw
        case rel => exact ⟨k + 1, c, by omega, by go_num, rfl, trivial, HO2⟩
        case measure => simp [intOf]; omega
    · obtain rfl : k = 4 := by omega
      have hor : o = r := Bool.eq_iff_iff.2 ⟨fun h => HR.out.2 ⟨⟨(HO0.out.1 (HO.out.1 h).1).1, (HO0.out.1 (HO.out.1 h).1).2.1, (HO0.out.1 (HO.out.1 h).1).2.2.1, (HO.out.1 h).2⟩, (HO0.out.1 (HO.out.1 h).1).2.2.2⟩, fun h => HO.out.2 ⟨HO0.out.2 ⟨(HR.out.1 h).1.g, (HR.out.1 h).1.v, (HR.out.1 h).1.n, (HR.out.1 h).2⟩, (HR.out.1 h).1.d⟩⟩
      subst hor
      cases o
      · go_wp2_with fail
        go_ret
        exact ⟨rfl, HB2.out⟩
      · go_wp2_with fail
        go_ret
        exact ⟨rfl, HB2.out⟩
theorem bmay_no {i b j v : Int} {x : Ino} (hx : x.Wf) (h0 : 0 ≤ v) (h1 : v < 65536) {tb : Nat} (is : Bool) (hr : ¬ (MayB i b j x v ∧ is = true)) (w : World) : Calls Tryz.prog 56 #[.pointer (some ⟨tb, 0, none⟩), gv i b j, .agg (ic x), .int .u16 v, .bool is] w fun e w' => e = .returned (.int .i64 2) ∧ Below w.heap.size w w' :=
  bmay_any hx h0 h1 is false ⟨fun h => (by cases h), fun h => absurd h hr⟩ w
end Go.Proofs.YtjjphcnoegaimaaGreat

namespace Go.Proofs.YtjjphcnoegaimaaGreat
open Go.RowKit Go.Shelf Go.Maps
set_option maxRecDepth 20000
set_option linter.unusedVariables false
set_option linter.unusedSimpArgs false

section
variable {w0 w W W' : World} {X : Nat → Prop} {p jb N tb m bsn : Nat} {M : Wl} {i b j v : Int} {x : Ino}
set_option maxHeartbeats 8000000 in
theorem bget_no (hx : x.Wf) (page : Int) (h : ¬ (MayB i b j x 0 ∧ 0 ≤ page ∧ page < 36)) (W : World) :
    Calls Tryz.prog 32 #[.pointer (some ⟨tb, 0, none⟩), gv i b j, .agg (ic x), .int .i64 page] W fun e W' => e = .returned (.tuple #[.int .u16 0, .int .i64 2]) ∧ Below W.heap.size W W' := by
  by_cases p1 : page < 0
  · have e1 : decide (page ≥ 0) = false := decide_eq_false (by omega)
    have HMY := Lib.hid (fun (w' : World) => bmay_no (i := i) (b := b) (j := j) (x := x) (v := 0) (tb := tb) hx (Int.le_refl 0) (by decide) false (fun h => absurd h.2 (by decide)) w')
    clear hx h
    unfold gv ic at *
    go_enter Tryz.func32, Tryz.ntmps32
    go_wp2_with fail
    have hB1 : Below W.heap.size W ((W.alloc (.cells #[.int .i64 i, .int .i64 b, .int .i64 j] 56)).alloc (.cells #[.int .u8 x.k, .int .u16 x.l, .int .u32 x.s, .int .u16 x.d0, .int .u16 x.d1, .int .u16 x.d2, .int .u16 x.d3, .int .u16 x.n] 61)) := bal (bnew _ _) _
    refine (HMY.out _).mono ?_
    rintro e w2 ⟨rfl, hB2⟩
    have HB2 := Lib.hid (bt hB1 hB2)
    clear hB1 hB2
    go_wp2_with fail
    go_ret2
    exact ⟨rfl, HB2.out⟩
  by_cases p2 : 36 ≤ page
  · have e1 : decide (page ≥ 0) = true := decide_eq_true (by omega)
    have e2 : decide (page < 36) = false := decide_eq_false (by omega)
    have HMY := Lib.hid (fun (w' : World) => bmay_no (i := i) (b := b) (j := j) (x := x) (v := 0) (tb := tb) hx (Int.le_refl 0) (by decide) false (fun h => absurd h.2 (by decide)) w')
    clear hx h
    unfold gv ic at *
    go_enter Tryz.func32, Tryz.ntmps32
    go_wp2_with fail
    have hB1 : Below W.heap.size W ((W.alloc (.cells #[.int .i64 i, .int .i64 b, .int .i64 j] 56)).alloc (.cells #[.int .u8 x.k, .int .u16 x.l, .int .u32 x.s, .int .u16 x.d0, .int .u16 x.d1, .int .u16 x.d2, .int .u16 x.d3, .int .u16 x.n] 61)) := bal (bnew _ _) _
    refine (HMY.out _).mono ?_
    rintro e w2 ⟨rfl, hB2⟩
    have HB2 := Lib.hid (bt hB1 hB2)
    clear hB1 hB2
    go_wp2_with fail
    go_ret2
    exact ⟨rfl, HB2.out⟩
  have e1 : decide (page ≥ 0) = true := decide_eq_true (by omega)
  have e2 : decide (page < 36) = true := decide_eq_true (by omega)
  have HMY := Lib.hid (fun (w' : World) => bmay_no (i := i) (b := b) (j := j) (x := x) (v := 0) (tb := tb) hx (Int.le_refl 0) (by decide) true (fun hh => h ⟨hh.1, by omega, by omega⟩) w')
  clear hx h
  unfold gv ic at *
  go_enter Tryz.func32, Tryz.ntmps32
  go_wp2_with fail
  have hB1 : Below W.heap.size W ((W.alloc (.cells #[.int .i64 i, .int .i64 b, .int .i64 j] 56)).alloc (.cells #[.int .u8 x.k, .int .u16 x.l, .int .u32 x.s, .int .u16 x.d0, .int .u16 x.d1, .int .u16 x.d2, .int .u16 x.d3, .int .u16 x.n] 61)) := bal (bnew _ _) _
  refine (HMY.out _).mono ?_
  rintro e w2 ⟨rfl, hB2⟩
  have HB2 := Lib.hid (bt hB1 hB2)
  clear hB1 hB2
  go_wp2_with fail
  go_ret2
  exact ⟨rfl, HB2.out⟩
set_option maxHeartbeats 8000000 in
theorem bset_no (hx : x.Wf) (h0 : 0 ≤ v) (h1 : v < 65536) (page : Int) (h : ¬ (MayB i b j x v ∧ 0 ≤ page ∧ page < 36)) (W : World) :
    Calls Tryz.prog 26 #[.pointer (some ⟨tb, 0, none⟩), gv i b j, .agg (ic x), .int .i64 page, .int .u16 v] W fun e W' => e = .returned (.tuple #[.agg (ic Ino.zero), .int .i64 2]) ∧ Below W.heap.size W W' := by
  by_cases p1 : page < 0
  · have e1 : decide (page ≥ 0) = false := decide_eq_false (by omega)
    have HMY := Lib.hid (fun (w' : World) => bmay_no (i := i) (b := b) (j := j) (x := x) (v := v) (tb := tb) hx h0 h1 false (fun h => absurd h.2 (by decide)) w')
    clear hx h
    try clear p2
    try clear p1
    unfold gv ic at *
    go_enter Tryz.func26, Tryz.ntmps26
    go_wp2_with fail
    obtain ⟨W1, hW1⟩ : ∃ W1, ((W.alloc (.cells #[.int .i64 i, .int .i64 b, .int .i64 j] 56)).alloc (.cells #[.int .u8 x.k, .int .u16 x.l, .int .u32 x.s, .int .u16 x.d0, .int .u16 x.d1, .int .u16 x.d2, .int .u16 x.d3, .int .u16 x.n] 61)).alloc (.cells #[.int .u8 0, .int .u16 0, .int .u32 0, .int .u16 0, .int .u16 0, .int .u16 0, .int .u16 0, .int .u16 0] 61) = W1 := ⟨_, rfl⟩
    have b6 : W1.heap[W.heap.size]? = some (.cells #[.int .i64 i, .int .i64 b, .int .i64 j] 56 (0, 0)) := by
      rw [← hW1, hp_old _ _ (by simp; try omega), hp_old _ _ (by simp), hp_new _ _ rfl]
    have b7 : W1.heap[W.heap.size + 1]? = some (.cells #[.int .u8 x.k, .int .u16 x.l, .int .u32 x.s, .int .u16 x.d0, .int .u16 x.d1, .int .u16 x.d2, .int .u16 x.d3, .int .u16 x.n] 61 (0, 0)) := by
      rw [← hW1, hp_old _ _ (by simp), hp_new _ _ (by simp)]
    have b10 : W1.heap[W.heap.size + 1 + 1]? = some (.cells #[.int .u8 0, .int .u16 0, .int .u32 0, .int .u16 0, .int .u16 0, .int .u16 0, .int .u16 0, .int .u16 0] 61 (0, 0)) := by
      rw [← hW1, hp_new _ _ (by simp)]
    have hB1 : Below W.heap.size W W1 := by rw [← hW1]; exact bal (bal (bnew _ _) _) _
    simp only [hW1]
    clear hW1
    refine (HMY.out _).mono ?_
    rintro e w2 ⟨rfl, hB2⟩
    have HB2 := Lib.hid (bt hB1 hB2)
    have c6 := bblk hB2 b6
    have c7 := bblk hB2 b7
    have c10 := bblk hB2 b10
    clear hB1 hB2 b6 b7 b10
    obtain ⟨bg, hbg⟩ : ∃ bg, W.heap.size = bg := ⟨_, rfl⟩
    obtain ⟨bx, hbx⟩ : ∃ bx, bg + 1 = bx := ⟨_, rfl⟩
    obtain ⟨br, hbr⟩ : ∃ br, bx + 1 = br := ⟨_, rfl⟩
    rw [hbg] at c6 c7 c10
    rw [hbx] at c7 c10
    rw [hbr] at c10
    simp only [hbg, hbx, hbr]
    have HBX : Hid (W.heap.size = bg ∧ bg + 1 = bx ∧ bx + 1 = br) := Lib.hid ⟨hbg, hbx, hbr⟩
    have hne : bx ≠ br := by omega
    have hne' : br ≠ bx := by omega
    have HBR : Hid (W.heap.size ≤ br) := Lib.hid (by omega)
    clear hbg hbx hbr
    have q0 := cl_of c7 0
    have q1 := cl_of c7 1
    have q2 := cl_of c7 2
    have q3 := cl_of c7 3
    have q4 := cl_of c7 4
    have q5 := cl_of c7 5
    have q6 := cl_of c7 6
    have q7 := cl_of c7 7
    have r0 := cl_of c10 0
    have r1 := cl_of c10 1
    have r2 := cl_of c10 2
    have r3 := cl_of c10 3
    have r4 := cl_of c10 4
    have r5 := cl_of c10 5
    have r6 := cl_of c10 6
    have r7 := cl_of c10 7
    have fz2 := fz_of c10
    clear c6 c7 c10
    go_wp2_with fail
    refine bodyPost_ret (v := .tuple #[.agg (ic Ino.zero), .int .i64 2]) (by simp [results, Tryz.results26, go_sem, hne, hne', ic, Ino.zero, Ino.setn, Ino.setd, r0, r1, r2, r3, r4, r5, r6, r7]) rfl ?_
    refine ⟨rfl, ?_⟩
    repeat (refine Below.setCell ?_ HBR.out _)
    exact HB2.out
  by_cases p2 : 36 ≤ page
  · have e1 : decide (page ≥ 0) = true := decide_eq_true (by omega)
    have e2 : decide (page < 36) = false := decide_eq_false (by omega)
    have HMY := Lib.hid (fun (w' : World) => bmay_no (i := i) (b := b) (j := j) (x := x) (v := v) (tb := tb) hx h0 h1 false (fun h => absurd h.2 (by decide)) w')
    clear hx h
    try clear p2
    try clear p1
    unfold gv ic at *
    go_enter Tryz.func26, Tryz.ntmps26
    go_wp2_with fail
    obtain ⟨W1, hW1⟩ : ∃ W1, ((W.alloc (.cells #[.int .i64 i, .int .i64 b, .int .i64 j] 56)).alloc (.cells #[.int .u8 x.k, .int .u16 x.l, .int .u32 x.s, .int .u16 x.d0, .int .u16 x.d1, .int .u16 x.d2, .int .u16 x.d3, .int .u16 x.n] 61)).alloc (.cells #[.int .u8 0, .int .u16 0, .int .u32 0, .int .u16 0, .int .u16 0, .int .u16 0, .int .u16 0, .int .u16 0] 61) = W1 := ⟨_, rfl⟩
    have b6 : W1.heap[W.heap.size]? = some (.cells #[.int .i64 i, .int .i64 b, .int .i64 j] 56 (0, 0)) := by
      rw [← hW1, hp_old _ _ (by simp; try omega), hp_old _ _ (by simp), hp_new _ _ rfl]
    have b7 : W1.heap[W.heap.size + 1]? = some (.cells #[.int .u8 x.k, .int .u16 x.l, .int .u32 x.s, .int .u16 x.d0, .int .u16 x.d1, .int .u16 x.d2, .int .u16 x.d3, .int .u16 x.n] 61 (0, 0)) := by
      rw [← hW1, hp_old _ _ (by simp), hp_new _ _ (by simp)]
    have b10 : W1.heap[W.heap.size + 1 + 1]? = some (.cells #[.int .u8 0, .int .u16 0, .int .u32 0, .int .u16 0, .int .u16 0, .int .u16 0, .int .u16 0, .int .u16 0] 61 (0, 0)) := by
      rw [← hW1, hp_new _ _ (by simp)]
    have hB1 : Below W.heap.size W W1 := by rw [← hW1]; exact bal (bal (bnew _ _) _) _
    simp only [hW1]
    clear hW1
    refine (HMY.out _).mono ?_
    rintro e w2 ⟨rfl, hB2⟩
    have HB2 := Lib.hid (bt hB1 hB2)
    have c6 := bblk hB2 b6
    have c7 := bblk hB2 b7
    have c10 := bblk hB2 b10
    clear hB1 hB2 b6 b7 b10
    obtain ⟨bg, hbg⟩ : ∃ bg, W.heap.size = bg := ⟨_, rfl⟩
    obtain ⟨bx, hbx⟩ : ∃ bx, bg + 1 = bx := ⟨_, rfl⟩
    obtain ⟨br, hbr⟩ : ∃ br, bx + 1 = br := ⟨_, rfl⟩
    rw [hbg] at c6 c7 c10
    rw [hbx] at c7 c10
    rw [hbr] at c10
    simp only [hbg, hbx, hbr]
    have HBX : Hid (W.heap.size = bg ∧ bg + 1 = bx ∧ bx + 1 = br) := Lib.hid ⟨hbg, hbx, hbr⟩
    have hne : bx ≠ br := by omega
    have hne' : br ≠ bx := by omega
    have HBR : Hid (W.heap.size ≤ br) := Lib.hid (by omega)
    clear hbg hbx hbr
    have q0 := cl_of c7 0
    have q1 := cl_of c7 1
    have q2 := cl_of c7 2
    have q3 := cl_of c7 3
    have q4 := cl_of c7 4
    have q5 := cl_of c7 5
    have q6 := cl_of c7 6
    have q7 := cl_of c7 7
    have r0 := cl_of c10 0
    have r1 := cl_of c10 1
    have r2 := cl_of c10 2
    have r3 := cl_of c10 3
    have r4 := cl_of c10 4
    have r5 := cl_of c10 5
    have r6 := cl_of c10 6
    have r7 := cl_of c10 7
    have fz2 := fz_of c10
    clear c6 c7 c10
    go_wp2_with fail
    refine bodyPost_ret (v := .tuple #[.agg (ic Ino.zero), .int .i64 2]) (by simp [results, Tryz.results26, go_sem, hne, hne', ic, Ino.zero, Ino.setn, Ino.setd, r0, r1, r2, r3, r4, r5, r6, r7]) rfl ?_
    refine ⟨rfl, ?_⟩
    repeat (refine Below.setCell ?_ HBR.out _)
    exact HB2.out
  have e1 : decide (page ≥ 0) = true := decide_eq_true (by omega)
  have e2 : decide (page < 36) = true := decide_eq_true (by omega)
  have HMY := Lib.hid (fun (w' : World) => bmay_no (i := i) (b := b) (j := j) (x := x) (v := v) (tb := tb) hx h0 h1 true (fun hh => h ⟨hh.1, by omega, by omega⟩) w')
  clear hx h
  try clear p2
  try clear p1
  unfold gv ic at *
  go_enter Tryz.func26, Tryz.ntmps26
  go_wp2_with fail
  obtain ⟨W1, hW1⟩ : ∃ W1, ((W.alloc (.cells #[.int .i64 i, .int .i64 b, .int .i64 j] 56)).alloc (.cells #[.int .u8 x.k, .int .u16 x.l, .int .u32 x.s, .int .u16 x.d0, .int .u16 x.d1, .int .u16 x.d2, .int .u16 x.d3, .int .u16 x.n] 61)).alloc (.cells #[.int .u8 0, .int .u16 0, .int .u32 0, .int .u16 0, .int .u16 0, .int .u16 0, .int .u16 0, .int .u16 0] 61) = W1 := ⟨_, rfl⟩
  have b6 : W1.heap[W.heap.size]? = some (.cells #[.int .i64 i, .int .i64 b, .int .i64 j] 56 (0, 0)) := by
    rw [← hW1, hp_old _ _ (by simp; try omega), hp_old _ _ (by simp), hp_new _ _ rfl]
  have b7 : W1.heap[W.heap.size + 1]? = some (.cells #[.int .u8 x.k, .int .u16 x.l, .int .u32 x.s, .int .u16 x.d0, .int .u16 x.d1, .int .u16 x.d2, .int .u16 x.d3, .int .u16 x.n] 61 (0, 0)) := by
    rw [← hW1, hp_old _ _ (by simp), hp_new _ _ (by simp)]
  have b10 : W1.heap[W.heap.size + 1 + 1]? = some (.cells #[.int .u8 0, .int .u16 0, .int .u32 0, .int .u16 0, .int .u16 0, .int .u16 0, .int .u16 0, .int .u16 0] 61 (0, 0)) := by
    rw [← hW1, hp_new _ _ (by simp)]
  have hB1 : Below W.heap.size W W1 := by rw [← hW1]; exact bal (bal (bnew _ _) _) _
  simp only [hW1]
  clear hW1
  refine (HMY.out _).mono ?_
  rintro e w2 ⟨rfl, hB2⟩
  have HB2 := Lib.hid (bt hB1 hB2)
  have c6 := bblk hB2 b6
  have c7 := bblk hB2 b7
  have c10 := bblk hB2 b10
  clear hB1 hB2 b6 b7 b10
  obtain ⟨bg, hbg⟩ : ∃ bg, W.heap.size = bg := ⟨_, rfl⟩
  obtain ⟨bx, hbx⟩ : ∃ bx, bg + 1 = bx := ⟨_, rfl⟩
  obtain ⟨br, hbr⟩ : ∃ br, bx + 1 = br := ⟨_, rfl⟩
  rw [hbg] at c6 c7 c10
  rw [hbx] at c7 c10
  rw [hbr] at c10
  simp only [hbg, hbx, hbr]
  have HBX : Hid (W.heap.size = bg ∧ bg + 1 = bx ∧ bx + 1 = br) := Lib.hid ⟨hbg, hbx, hbr⟩
  have hne : bx ≠ br := by omega
  have hne' : br ≠ bx := by omega
  have HBR : Hid (W.heap.size ≤ br) := Lib.hid (by omega)
  clear hbg hbx hbr
  have q0 := cl_of c7 0
  have q1 := cl_of c7 1
  have q2 := cl_of c7 2
  have q3 := cl_of c7 3
  have q4 := cl_of c7 4
  have q5 := cl_of c7 5
  have q6 := cl_of c7 6
  have q7 := cl_of c7 7
  have r0 := cl_of c10 0
  have r1 := cl_of c10 1
  have r2 := cl_of c10 2
  have r3 := cl_of c10 3
  have r4 := cl_of c10 4
  have r5 := cl_of c10 5
  have r6 := cl_of c10 6
  have r7 := cl_of c10 7
  have fz2 := fz_of c10
  clear c6 c7 c10
  go_wp2_with fail
  refine bodyPost_ret (v := .tuple #[.agg (ic Ino.zero), .int .i64 2]) (by simp [results, Tryz.results26, go_sem, hne, hne', ic, Ino.zero, Ino.setn, Ino.setd, r0, r1, r2, r3, r4, r5, r6, r7]) rfl ?_
  refine ⟨rfl, ?_⟩
  repeat (refine Below.setCell ?_ HBR.out _)
  exact HB2.out
set_option maxHeartbeats 8000000 in
theorem bbegin_no (hx : x.Wf) (h0 : 0 ≤ v) (h1 : v < 65536) (h : ¬ (MayB i b j x v ∧ v ≠ 0 ∧ x.n = 0)) (W : World) :
    Calls Tryz.prog 27 #[.pointer (some ⟨tb, 0, none⟩), gv i b j, .agg (ic x), .int .u16 v] W fun e W' => e = .returned (.tuple #[.agg (ic Ino.zero), .int .i64 2]) ∧ Below W.heap.size W W' := by
  by_cases p1 : v = 0
  · have e1 : (v != 0) = false := by simp [p1]
    have HMY := Lib.hid (fun (w' : World) => bmay_no (i := i) (b := b) (j := j) (x := x) (v := v) (tb := tb) hx h0 h1 false (fun h => absurd h.2 (by decide)) w')
    clear hx h
    try clear p2
    try clear p1
    unfold gv ic at *
    go_enter Tryz.func27, Tryz.ntmps27
    go_wp2_with fail
    obtain ⟨W1, hW1⟩ : ∃ W1, ((W.alloc (.cells #[.int .i64 i, .int .i64 b, .int .i64 j] 56)).alloc (.cells #[.int .u8 x.k, .int .u16 x.l, .int .u32 x.s, .int .u16 x.d0, .int .u16 x.d1, .int .u16 x.d2, .int .u16 x.d3, .int .u16 x.n] 61)).alloc (.cells #[.int .u8 0, .int .u16 0, .int .u32 0, .int .u16 0, .int .u16 0, .int .u16 0, .int .u16 0, .int .u16 0] 61) = W1 := ⟨_, rfl⟩
    have b6 : W1.heap[W.heap.size]? = some (.cells #[.int .i64 i, .int .i64 b, .int .i64 j] 56 (0, 0)) := by
      rw [← hW1, hp_old _ _ (by simp; try omega), hp_old _ _ (by simp), hp_new _ _ rfl]
    have b7 : W1.heap[W.heap.size + 1]? = some (.cells #[.int .u8 x.k, .int .u16 x.l, .int .u32 x.s, .int .u16 x.d0, .int .u16 x.d1, .int .u16 x.d2, .int .u16 x.d3, .int .u16 x.n] 61 (0, 0)) := by
      rw [← hW1, hp_old _ _ (by simp), hp_new _ _ (by simp)]
    have b10 : W1.heap[W.heap.size + 1 + 1]? = some (.cells #[.int .u8 0, .int .u16 0, .int .u32 0, .int .u16 0, .int .u16 0, .int .u16 0, .int .u16 0, .int .u16 0] 61 (0, 0)) := by
      rw [← hW1, hp_new _ _ (by simp)]
    have hB1 : Below W.heap.size W W1 := by rw [← hW1]; exact bal (bal (bnew _ _) _) _
    simp only [hW1]
    clear hW1
    refine (HMY.out _).mono ?_
    rintro e w2 ⟨rfl, hB2⟩
    have HB2 := Lib.hid (bt hB1 hB2)
    have c6 := bblk hB2 b6
    have c7 := bblk hB2 b7
    have c10 := bblk hB2 b10
    clear hB1 hB2 b6 b7 b10
    obtain ⟨bg, hbg⟩ : ∃ bg, W.heap.size = bg := ⟨_, rfl⟩
    obtain ⟨bx, hbx⟩ : ∃ bx, bg + 1 = bx := ⟨_, rfl⟩
    obtain ⟨br, hbr⟩ : ∃ br, bx + 1 = br := ⟨_, rfl⟩
    rw [hbg] at c6 c7 c10
    rw [hbx] at c7 c10
    rw [hbr] at c10
    simp only [hbg, hbx, hbr]
    have HBX : Hid (W.heap.size = bg ∧ bg + 1 = bx ∧ bx + 1 = br) := Lib.hid ⟨hbg, hbx, hbr⟩
    have hne : bx ≠ br := by omega
    have hne' : br ≠ bx := by omega
    have HBR : Hid (W.heap.size ≤ br) := Lib.hid (by omega)
    clear hbg hbx hbr
    have q0 := cl_of c7 0
    have q1 := cl_of c7 1
    have q2 := cl_of c7 2
    have q3 := cl_of c7 3
    have q4 := cl_of c7 4
    have q5 := cl_of c7 5
    have q6 := cl_of c7 6
    have q7 := cl_of c7 7
    have r0 := cl_of c10 0
    have r1 := cl_of c10 1
    have r2 := cl_of c10 2
    have r3 := cl_of c10 3
    have r4 := cl_of c10 4
    have r5 := cl_of c10 5
    have r6 := cl_of c10 6
    have r7 := cl_of c10 7
    have fz2 := fz_of c10
    clear c6 c7 c10
    go_wp2_with fail
    refine bodyPost_ret (v := .tuple #[.agg (ic Ino.zero), .int .i64 2]) (by simp [results, Tryz.results27, go_sem, hne, hne', ic, Ino.zero, Ino.setn, Ino.setd, r0, r1, r2, r3, r4, r5, r6, r7]) rfl ?_
    refine ⟨rfl, ?_⟩
    repeat (refine Below.setCell ?_ HBR.out _)
    exact HB2.out
  by_cases p2 : x.n ≠ 0
  · have e1 : (v != 0) = true := by simp [p1]
    have e2 : (x.n == 0) = false := by simp; exact p2
    have HMY := Lib.hid (fun (w' : World) => bmay_no (i := i) (b := b) (j := j) (x := x) (v := v) (tb := tb) hx h0 h1 false (fun h => absurd h.2 (by decide)) w')
    clear hx h
    try clear p2
    try clear p1
    unfold gv ic at *
    go_enter Tryz.func27, Tryz.ntmps27
    go_wp2_with fail
    obtain ⟨W1, hW1⟩ : ∃ W1, ((W.alloc (.cells #[.int .i64 i, .int .i64 b, .int .i64 j] 56)).alloc (.cells #[.int .u8 x.k, .int .u16 x.l, .int .u32 x.s, .int .u16 x.d0, .int .u16 x.d1, .int .u16 x.d2, .int .u16 x.d3, .int .u16 x.n] 61)).alloc (.cells #[.int .u8 0, .int .u16 0, .int .u32 0, .int .u16 0, .int .u16 0, .int .u16 0, .int .u16 0, .int .u16 0] 61) = W1 := ⟨_, rfl⟩
    have b6 : W1.heap[W.heap.size]? = some (.cells #[.int .i64 i, .int .i64 b, .int .i64 j] 56 (0, 0)) := by
      rw [← hW1, hp_old _ _ (by simp; try omega), hp_old _ _ (by simp), hp_new _ _ rfl]
    have b7 : W1.heap[W.heap.size + 1]? = some (.cells #[.int .u8 x.k, .int .u16 x.l, .int .u32 x.s, .int .u16 x.d0, .int .u16 x.d1, .int .u16 x.d2, .int .u16 x.d3, .int .u16 x.n] 61 (0, 0)) := by
      rw [← hW1, hp_old _ _ (by simp), hp_new _ _ (by simp)]
    have b10 : W1.heap[W.heap.size + 1 + 1]? = some (.cells #[.int .u8 0, .int .u16 0, .int .u32 0, .int .u16 0, .int .u16 0, .int .u16 0, .int .u16 0, .int .u16 0] 61 (0, 0)) := by
      rw [← hW1, hp_new _ _ (by simp)]
    have hB1 : Below W.heap.size W W1 := by rw [← hW1]; exact bal (bal (bnew _ _) _) _
    simp only [hW1]
    clear hW1
    refine (HMY.out _).mono ?_
    rintro e w2 ⟨rfl, hB2⟩
    have HB2 := Lib.hid (bt hB1 hB2)
    have c6 := bblk hB2 b6
    have c7 := bblk hB2 b7
    have c10 := bblk hB2 b10
    clear hB1 hB2 b6 b7 b10
    obtain ⟨bg, hbg⟩ : ∃ bg, W.heap.size = bg := ⟨_, rfl⟩
    obtain ⟨bx, hbx⟩ : ∃ bx, bg + 1 = bx := ⟨_, rfl⟩
    obtain ⟨br, hbr⟩ : ∃ br, bx + 1 = br := ⟨_, rfl⟩
    rw [hbg] at c6 c7 c10
    rw [hbx] at c7 c10
    rw [hbr] at c10
    simp only [hbg, hbx, hbr]
    have HBX : Hid (W.heap.size = bg ∧ bg + 1 = bx ∧ bx + 1 = br) := Lib.hid ⟨hbg, hbx, hbr⟩
    have hne : bx ≠ br := by omega
    have hne' : br ≠ bx := by omega
    have HBR : Hid (W.heap.size ≤ br) := Lib.hid (by omega)
    clear hbg hbx hbr
    have q0 := cl_of c7 0
    have q1 := cl_of c7 1
    have q2 := cl_of c7 2
    have q3 := cl_of c7 3
    have q4 := cl_of c7 4
    have q5 := cl_of c7 5
    have q6 := cl_of c7 6
    have q7 := cl_of c7 7
    have r0 := cl_of c10 0
    have r1 := cl_of c10 1
    have r2 := cl_of c10 2
    have r3 := cl_of c10 3
    have r4 := cl_of c10 4
    have r5 := cl_of c10 5
    have r6 := cl_of c10 6
    have r7 := cl_of c10 7
    have fz2 := fz_of c10
    clear c6 c7 c10
    go_wp2_with fail
    refine bodyPost_ret (v := .tuple #[.agg (ic Ino.zero), .int .i64 2]) (by simp [results, Tryz.results27, go_sem, hne, hne', ic, Ino.zero, Ino.setn, Ino.setd, r0, r1, r2, r3, r4, r5, r6, r7]) rfl ?_
    refine ⟨rfl, ?_⟩
    repeat (refine Below.setCell ?_ HBR.out _)
    exact HB2.out
  have e1 : (v != 0) = true := by simp [p1]
  have e2 : (x.n == 0) = true := by simp; omega
  have HMY := Lib.hid (fun (w' : World) => bmay_no (i := i) (b := b) (j := j) (x := x) (v := v) (tb := tb) hx h0 h1 true (fun hh => h ⟨hh.1, p1, by omega⟩) w')
  clear hx h
  try clear p2
  try clear p1
  unfold gv ic at *
  go_enter Tryz.func27, Tryz.ntmps27
  go_wp2_with fail
  obtain ⟨W1, hW1⟩ : ∃ W1, ((W.alloc (.cells #[.int .i64 i, .int .i64 b, .int .i64 j] 56)).alloc (.cells #[.int .u8 x.k, .int .u16 x.l, .int .u32 x.s, .int .u16 x.d0, .int .u16 x.d1, .int .u16 x.d2, .int .u16 x.d3, .int .u16 x.n] 61)).alloc (.cells #[.int .u8 0, .int .u16 0, .int .u32 0, .int .u16 0, .int .u16 0, .int .u16 0, .int .u16 0, .int .u16 0] 61) = W1 := ⟨_, rfl⟩
  have b6 : W1.heap[W.heap.size]? = some (.cells #[.int .i64 i, .int .i64 b, .int .i64 j] 56 (0, 0)) := by
    rw [← hW1, hp_old _ _ (by simp; try omega), hp_old _ _ (by simp), hp_new _ _ rfl]
  have b7 : W1.heap[W.heap.size + 1]? = some (.cells #[.int .u8 x.k, .int .u16 x.l, .int .u32 x.s, .int .u16 x.d0, .int .u16 x.d1, .int .u16 x.d2, .int .u16 x.d3, .int .u16 x.n] 61 (0, 0)) := by
    rw [← hW1, hp_old _ _ (by simp), hp_new _ _ (by simp)]
  have b10 : W1.heap[W.heap.size + 1 + 1]? = some (.cells #[.int .u8 0, .int .u16 0, .int .u32 0, .int .u16 0, .int .u16 0, .int .u16 0, .int .u16 0, .int .u16 0] 61 (0, 0)) := by
    rw [← hW1, hp_new _ _ (by simp)]
  have hB1 : Below W.heap.size W W1 := by rw [← hW1]; exact bal (bal (bnew _ _) _) _
  simp only [hW1]
  clear hW1
  refine (HMY.out _).mono ?_
  rintro e w2 ⟨rfl, hB2⟩
  have HB2 := Lib.hid (bt hB1 hB2)
  have c6 := bblk hB2 b6
  have c7 := bblk hB2 b7
  have c10 := bblk hB2 b10
  clear hB1 hB2 b6 b7 b10
  obtain ⟨bg, hbg⟩ : ∃ bg, W.heap.size = bg := ⟨_, rfl⟩
  obtain ⟨bx, hbx⟩ : ∃ bx, bg + 1 = bx := ⟨_, rfl⟩
  obtain ⟨br, hbr⟩ : ∃ br, bx + 1 = br := ⟨_, rfl⟩
  rw [hbg] at c6 c7 c10
  rw [hbx] at c7 c10
  rw [hbr] at c10
  simp only [hbg, hbx, hbr]
  have HBX : Hid (W.heap.size = bg ∧ bg + 1 = bx ∧ bx + 1 = br) := Lib.hid ⟨hbg, hbx, hbr⟩
  have hne : bx ≠ br := by omega
  have hne' : br ≠ bx := by omega
  have HBR : Hid (W.heap.size ≤ br) := Lib.hid (by omega)
  clear hbg hbx hbr
  have q0 := cl_of c7 0
  have q1 := cl_of c7 1
  have q2 := cl_of c7 2
  have q3 := cl_of c7 3
  have q4 := cl_of c7 4
  have q5 := cl_of c7 5
  have q6 := cl_of c7 6
  have q7 := cl_of c7 7
  have r0 := cl_of c10 0
  have r1 := cl_of c10 1
  have r2 := cl_of c10 2
  have r3 := cl_of c10 3
  have r4 := cl_of c10 4
  have r5 := cl_of c10 5
  have r6 := cl_of c10 6
  have r7 := cl_of c10 7
  have fz2 := fz_of c10
  clear c6 c7 c10
  go_wp2_with fail
  refine bodyPost_ret (v := .tuple #[.agg (ic Ino.zero), .int .i64 2]) (by simp [results, Tryz.results27, go_sem, hne, hne', ic, Ino.zero, Ino.setn, Ino.setd, r0, r1, r2, r3, r4, r5, r6, r7]) rfl ?_
  refine ⟨rfl, ?_⟩
  repeat (refine Below.setCell ?_ HBR.out _)
  exact HB2.out
set_option maxHeartbeats 8000000 in
theorem bcut_no (hx : x.Wf) (page : Int) (h : ¬ (MayB i b j x 0 ∧ 0 ≤ page ∧ page ≤ 36)) (W : World) :
    Calls Tryz.prog 29 #[.pointer (some ⟨tb, 0, none⟩), gv i b j, .agg (ic x), .int .i64 page] W fun e W' => e = .returned (.tuple #[.agg (ic Ino.zero), .slice none 0 0, .int .i64 2]) ∧ Below W.heap.size W W' := by
  by_cases p1 : page < 0
  · have e1 : decide (page ≥ 0) = false := decide_eq_false (by omega)
    have HMY := Lib.hid (fun (w' : World) => bmay_no (i := i) (b := b) (j := j) (x := x) (v := 0) (tb := tb) hx (Int.le_refl 0) (by decide) false (fun h => absurd h.2 (by decide)) w')
    clear hx h
    try clear p2
    try clear p1
    unfold gv ic at *
    go_enter Tryz.func29, Tryz.ntmps29
    go_wp2_with fail
    obtain ⟨W1, hW1⟩ : ∃ W1, (((W.alloc (.cells #[.int .i64 i, .int .i64 b, .int .i64 j] 56)).alloc (.cells #[.int .u8 x.k, .int .u16 x.l, .int .u32 x.s, .int .u16 x.d0, .int .u16 x.d1, .int .u16 x.d2, .int .u16 x.d3, .int .u16 x.n] 61)).alloc (.cells #[.int .u8 0, .int .u16 0, .int .u32 0, .int .u16 0, .int .u16 0, .int .u16 0, .int .u16 0, .int .u16 0] 61)).alloc (.cells #[.slice none 0 0] 68) = W1 := ⟨_, rfl⟩
    have b6 : W1.heap[W.heap.size]? = some (.cells #[.int .i64 i, .int .i64 b, .int .i64 j] 56 (0, 0)) := by
      rw [← hW1, hp_old _ _ (by simp; try omega), hp_old _ _ (by simp; try omega), hp_old _ _ (by simp), hp_new _ _ rfl]
    have b7 : W1.heap[W.heap.size + 1]? = some (.cells #[.int .u8 x.k, .int .u16 x.l, .int .u32 x.s, .int .u16 x.d0, .int .u16 x.d1, .int .u16 x.d2, .int .u16 x.d3, .int .u16 x.n] 61 (0, 0)) := by
      rw [← hW1, hp_old _ _ (by simp; try omega), hp_old _ _ (by simp), hp_new _ _ (by simp)]
    have b10 : W1.heap[W.heap.size + 1 + 1]? = some (.cells #[.int .u8 0, .int .u16 0, .int .u32 0, .int .u16 0, .int .u16 0, .int .u16 0, .int .u16 0, .int .u16 0] 61 (0, 0)) := by
      rw [← hW1, hp_old _ _ (by simp; try omega), hp_new _ _ (by simp)]
    have b11 : W1.heap[W.heap.size + 1 + 1 + 1]? = some (.cells #[.slice none 0 0] 68 (0, 0)) := by
      rw [← hW1, hp_new _ _ (by simp)]
    have hB1 : Below W.heap.size W W1 := by rw [← hW1]; exact bal (bal (bal (bnew _ _) _) _) _
    simp only [hW1]
    clear hW1
    refine (HMY.out _).mono ?_
    rintro e w2 ⟨rfl, hB2⟩
    have HB2 := Lib.hid (bt hB1 hB2)
    have c6 := bblk hB2 b6
    have c7 := bblk hB2 b7
    have c10 := bblk hB2 b10
    have c11 := bblk hB2 b11
    clear hB1 hB2 b6 b7 b10 b11
    obtain ⟨bg, hbg⟩ : ∃ bg, W.heap.size = bg := ⟨_, rfl⟩
    obtain ⟨bx, hbx⟩ : ∃ bx, bg + 1 = bx := ⟨_, rfl⟩
    obtain ⟨br, hbr⟩ : ∃ br, bx + 1 = br := ⟨_, rfl⟩
    obtain ⟨bf, hbf⟩ : ∃ bf, br + 1 = bf := ⟨_, rfl⟩
    rw [hbg] at c6 c7 c10 c11
    rw [hbx] at c7 c10 c11
    rw [hbr] at c10 c11
    rw [hbf] at c11
    simp only [hbg, hbx, hbr, hbf]
    have HBX : Hid (W.heap.size = bg ∧ bg + 1 = bx ∧ bx + 1 = br ∧ br + 1 = bf) := Lib.hid ⟨hbg, hbx, hbr, hbf⟩
    have hne : bx ≠ br := by omega
    have hne' : br ≠ bx := by omega
    have hnf : br ≠ bf := by omega
    have hnf' : bf ≠ br := by omega
    have HBR : Hid (W.heap.size ≤ br ∧ W.heap.size ≤ bf) := Lib.hid (by omega)
    clear hbg hbx hbr hbf
    have q0 := cl_of c7 0
    have q1 := cl_of c7 1
    have q2 := cl_of c7 2
    have q3 := cl_of c7 3
    have q4 := cl_of c7 4
    have q5 := cl_of c7 5
    have q6 := cl_of c7 6
    have q7 := cl_of c7 7
    have r0 := cl_of c10 0
    have r1 := cl_of c10 1
    have r2 := cl_of c10 2
    have r3 := cl_of c10 3
    have r4 := cl_of c10 4
    have r5 := cl_of c10 5
    have r6 := cl_of c10 6
    have r7 := cl_of c10 7
    have fz2 := fz_of c10
    have s11 := cl_of c11 0
    have fz3 := fz_of c11
    clear c6 c7 c10 c11
    go_wp2_with fail
    refine bodyPost_ret (v := .tuple #[.agg (ic Ino.zero), .slice none 0 0, .int .i64 2]) (by simp [results, Tryz.results29, go_sem, hne, hne', hnf, hnf', ic, Ino.zero, r0, r1, r2, r3, r4, r5, r6, r7, s11]) rfl ?_
    refine ⟨rfl, ?_⟩
    repeat (refine Below.setCell ?_ (by first | exact HBR.out.1 | exact HBR.out.2) _)
    exact HB2.out
  by_cases p2 : 36 < page
  · have e1 : decide (page ≥ 0) = true := decide_eq_true (by omega)
    have e2 : decide (page ≤ 36) = false := decide_eq_false (by omega)
    have HMY := Lib.hid (fun (w' : World) => bmay_no (i := i) (b := b) (j := j) (x := x) (v := 0) (tb := tb) hx (Int.le_refl 0) (by decide) false (fun h => absurd h.2 (by decide)) w')
    clear hx h
    try clear p2
    try clear p1
    unfold gv ic at *
    go_enter Tryz.func29, Tryz.ntmps29
    go_wp2_with fail
    obtain ⟨W1, hW1⟩ : ∃ W1, (((W.alloc (.cells #[.int .i64 i, .int .i64 b, .int .i64 j] 56)).alloc (.cells #[.int .u8 x.k, .int .u16 x.l, .int .u32 x.s, .int .u16 x.d0, .int .u16 x.d1, .int .u16 x.d2, .int .u16 x.d3, .int .u16 x.n] 61)).alloc (.cells #[.int .u8 0, .int .u16 0, .int .u32 0, .int .u16 0, .int .u16 0, .int .u16 0, .int .u16 0, .int .u16 0] 61)).alloc (.cells #[.slice none 0 0] 68) = W1 := ⟨_, rfl⟩
    have b6 : W1.heap[W.heap.size]? = some (.cells #[.int .i64 i, .int .i64 b, .int .i64 j] 56 (0, 0)) := by
      rw [← hW1, hp_old _ _ (by simp; try omega), hp_old _ _ (by simp; try omega), hp_old _ _ (by simp), hp_new _ _ rfl]
    have b7 : W1.heap[W.heap.size + 1]? = some (.cells #[.int .u8 x.k, .int .u16 x.l, .int .u32 x.s, .int .u16 x.d0, .int .u16 x.d1, .int .u16 x.d2, .int .u16 x.d3, .int .u16 x.n] 61 (0, 0)) := by
      rw [← hW1, hp_old _ _ (by simp; try omega), hp_old _ _ (by simp), hp_new _ _ (by simp)]
    have b10 : W1.heap[W.heap.size + 1 + 1]? = some (.cells #[.int .u8 0, .int .u16 0, .int .u32 0, .int .u16 0, .int .u16 0, .int .u16 0, .int .u16 0, .int .u16 0] 61 (0, 0)) := by
      rw [← hW1, hp_old _ _ (by simp; try omega), hp_new _ _ (by simp)]
    have b11 : W1.heap[W.heap.size + 1 + 1 + 1]? = some (.cells #[.slice none 0 0] 68 (0, 0)) := by
      rw [← hW1, hp_new _ _ (by simp)]
    have hB1 : Below W.heap.size W W1 := by rw [← hW1]; exact bal (bal (bal (bnew _ _) _) _) _
    simp only [hW1]
    clear hW1
    refine (HMY.out _).mono ?_
    rintro e w2 ⟨rfl, hB2⟩
    have HB2 := Lib.hid (bt hB1 hB2)
    have c6 := bblk hB2 b6
    have c7 := bblk hB2 b7
    have c10 := bblk hB2 b10
    have c11 := bblk hB2 b11
    clear hB1 hB2 b6 b7 b10 b11
    obtain ⟨bg, hbg⟩ : ∃ bg, W.heap.size = bg := ⟨_, rfl⟩
    obtain ⟨bx, hbx⟩ : ∃ bx, bg + 1 = bx := ⟨_, rfl⟩
    obtain ⟨br, hbr⟩ : ∃ br, bx + 1 = br := ⟨_, rfl⟩
    obtain ⟨bf, hbf⟩ : ∃ bf, br + 1 = bf := ⟨_, rfl⟩
    rw [hbg] at c6 c7 c10 c11
    rw [hbx] at c7 c10 c11
    rw [hbr] at c10 c11
    rw [hbf] at c11
    simp only [hbg, hbx, hbr, hbf]
    have HBX : Hid (W.heap.size = bg ∧ bg + 1 = bx ∧ bx + 1 = br ∧ br + 1 = bf) := Lib.hid ⟨hbg, hbx, hbr, hbf⟩
    have hne : bx ≠ br := by omega
    have hne' : br ≠ bx := by omega
    have hnf : br ≠ bf := by omega
    have hnf' : bf ≠ br := by omega
    have HBR : Hid (W.heap.size ≤ br ∧ W.heap.size ≤ bf) := Lib.hid (by omega)
    clear hbg hbx hbr hbf
    have q0 := cl_of c7 0
    have q1 := cl_of c7 1
    have q2 := cl_of c7 2
    have q3 := cl_of c7 3
    have q4 := cl_of c7 4
    have q5 := cl_of c7 5
    have q6 := cl_of c7 6
    have q7 := cl_of c7 7
    have r0 := cl_of c10 0
    have r1 := cl_of c10 1
    have r2 := cl_of c10 2
    have r3 := cl_of c10 3
    have r4 := cl_of c10 4
    have r5 := cl_of c10 5
    have r6 := cl_of c10 6
    have r7 := cl_of c10 7
    have fz2 := fz_of c10
    have s11 := cl_of c11 0
    have fz3 := fz_of c11
    clear c6 c7 c10 c11
    go_wp2_with fail
    refine bodyPost_ret (v := .tuple #[.agg (ic Ino.zero), .slice none 0 0, .int .i64 2]) (by simp [results, Tryz.results29, go_sem, hne, hne', hnf, hnf', ic, Ino.zero, r0, r1, r2, r3, r4, r5, r6, r7, s11]) rfl ?_
    refine ⟨rfl, ?_⟩
    repeat (refine Below.setCell ?_ (by first | exact HBR.out.1 | exact HBR.out.2) _)
    exact HB2.out
  have e1 : decide (page ≥ 0) = true := decide_eq_true (by omega)
  have e2 : decide (page ≤ 36) = true := decide_eq_true (by omega)
  have HMY := Lib.hid (fun (w' : World) => bmay_no (i := i) (b := b) (j := j) (x := x) (v := 0) (tb := tb) hx (Int.le_refl 0) (by decide) true (fun hh => h ⟨hh.1, by omega, by omega⟩) w')
  clear hx h
  try clear p2
  try clear p1
  unfold gv ic at *
  go_enter Tryz.func29, Tryz.ntmps29
  go_wp2_with fail
  obtain ⟨W1, hW1⟩ : ∃ W1, (((W.alloc (.cells #[.int .i64 i, .int .i64 b, .int .i64 j] 56)).alloc (.cells #[.int .u8 x.k, .int .u16 x.l, .int .u32 x.s, .int .u16 x.d0, .int .u16 x.d1, .int .u16 x.d2, .int .u16 x.d3, .int .u16 x.n] 61)).alloc (.cells #[.int .u8 0, .int .u16 0, .int .u32 0, .int .u16 0, .int .u16 0, .int .u16 0, .int .u16 0, .int .u16 0] 61)).alloc (.cells #[.slice none 0 0] 68) = W1 := ⟨_, rfl⟩
  have b6 : W1.heap[W.heap.size]? = some (.cells #[.int .i64 i, .int .i64 b, .int .i64 j] 56 (0, 0)) := by
    rw [← hW1, hp_old _ _ (by simp; try omega), hp_old _ _ (by simp; try omega), hp_old _ _ (by simp), hp_new _ _ rfl]
  have b7 : W1.heap[W.heap.size + 1]? = some (.cells #[.int .u8 x.k, .int .u16 x.l, .int .u32 x.s, .int .u16 x.d0, .int .u16 x.d1, .int .u16 x.d2, .int .u16 x.d3, .int .u16 x.n] 61 (0, 0)) := by
    rw [← hW1, hp_old _ _ (by simp; try omega), hp_old _ _ (by simp), hp_new _ _ (by simp)]
  have b10 : W1.heap[W.heap.size + 1 + 1]? = some (.cells #[.int .u8 0, .int .u16 0, .int .u32 0, .int .u16 0, .int .u16 0, .int .u16 0, .int .u16 0, .int .u16 0] 61 (0, 0)) := by
    rw [← hW1, hp_old _ _ (by simp; try omega), hp_new _ _ (by simp)]
  have b11 : W1.heap[W.heap.size + 1 + 1 + 1]? = some (.cells #[.slice none 0 0] 68 (0, 0)) := by
    rw [← hW1, hp_new _ _ (by simp)]
  have hB1 : Below W.heap.size W W1 := by rw [← hW1]; exact bal (bal (bal (bnew _ _) _) _) _
  simp only [hW1]
  clear hW1
  refine (HMY.out _).mono ?_
  rintro e w2 ⟨rfl, hB2⟩
  have HB2 := Lib.hid (bt hB1 hB2)
  have c6 := bblk hB2 b6
  have c7 := bblk hB2 b7
  have c10 := bblk hB2 b10
  have c11 := bblk hB2 b11
  clear hB1 hB2 b6 b7 b10 b11
  obtain ⟨bg, hbg⟩ : ∃ bg, W.heap.size = bg := ⟨_, rfl⟩
  obtain ⟨bx, hbx⟩ : ∃ bx, bg + 1 = bx := ⟨_, rfl⟩
  obtain ⟨br, hbr⟩ : ∃ br, bx + 1 = br := ⟨_, rfl⟩
  obtain ⟨bf, hbf⟩ : ∃ bf, br + 1 = bf := ⟨_, rfl⟩
  rw [hbg] at c6 c7 c10 c11
  rw [hbx] at c7 c10 c11
  rw [hbr] at c10 c11
  rw [hbf] at c11
  simp only [hbg, hbx, hbr, hbf]
  have HBX : Hid (W.heap.size = bg ∧ bg + 1 = bx ∧ bx + 1 = br ∧ br + 1 = bf) := Lib.hid ⟨hbg, hbx, hbr, hbf⟩
  have hne : bx ≠ br := by omega
  have hne' : br ≠ bx := by omega
  have hnf : br ≠ bf := by omega
  have hnf' : bf ≠ br := by omega
  have HBR : Hid (W.heap.size ≤ br ∧ W.heap.size ≤ bf) := Lib.hid (by omega)
  clear hbg hbx hbr hbf
  have q0 := cl_of c7 0
  have q1 := cl_of c7 1
  have q2 := cl_of c7 2
  have q3 := cl_of c7 3
  have q4 := cl_of c7 4
  have q5 := cl_of c7 5
  have q6 := cl_of c7 6
  have q7 := cl_of c7 7
  have r0 := cl_of c10 0
  have r1 := cl_of c10 1
  have r2 := cl_of c10 2
  have r3 := cl_of c10 3
  have r4 := cl_of c10 4
  have r5 := cl_of c10 5
  have r6 := cl_of c10 6
  have r7 := cl_of c10 7
  have fz2 := fz_of c10
  have s11 := cl_of c11 0
  have fz3 := fz_of c11
  clear c6 c7 c10 c11
  go_wp2_with fail
  refine bodyPost_ret (v := .tuple #[.agg (ic Ino.zero), .slice none 0 0, .int .i64 2]) (by simp [results, Tryz.results29, go_sem, hne, hne', hnf, hnf', ic, Ino.zero, r0, r1, r2, r3, r4, r5, r6, r7, s11]) rfl ?_
  refine ⟨rfl, ?_⟩
  repeat (refine Below.setCell ?_ (by first | exact HBR.out.1 | exact HBR.out.2) _)
  exact HB2.out
set_option maxHeartbeats 8000000 in
theorem bset_nil  (W : World) :
    Calls Tryz.prog 26 #[.pointer none, gv i b j, .agg (ic x), .int .i64 0, .int .u16 0] W fun e W' => e = .returned (.tuple #[.agg (ic Ino.zero), .int .i64 1]) ∧ Below W.heap.size W W' := by
  have HMY := Lib.hid (fun (vv cc : Value) (w' : World) => bmay_nil (gv i b j) (.agg (ic x)) vv cc w' ⟨i, b, j, rfl⟩ ⟨x, rfl⟩)
  unfold gv ic at *
  try clear p2
  go_enter Tryz.func26, Tryz.ntmps26
  go_wp2_with fail
  obtain ⟨W1, hW1⟩ : ∃ W1, ((W.alloc (.cells #[.int .i64 i, .int .i64 b, .int .i64 j] 56)).alloc (.cells #[.int .u8 x.k, .int .u16 x.l, .int .u32 x.s, .int .u16 x.d0, .int .u16 x.d1, .int .u16 x.d2, .int .u16 x.d3, .int .u16 x.n] 61)).alloc (.cells #[.int .u8 0, .int .u16 0, .int .u32 0, .int .u16 0, .int .u16 0, .int .u16 0, .int .u16 0, .int .u16 0] 61) = W1 := ⟨_, rfl⟩
  have b6 : W1.heap[W.heap.size]? = some (.cells #[.int .i64 i, .int .i64 b, .int .i64 j] 56 (0, 0)) := by
    rw [← hW1, hp_old _ _ (by simp; try omega), hp_old _ _ (by simp), hp_new _ _ rfl]
  have b7 : W1.heap[W.heap.size + 1]? = some (.cells #[.int .u8 x.k, .int .u16 x.l, .int .u32 x.s, .int .u16 x.d0, .int .u16 x.d1, .int .u16 x.d2, .int .u16 x.d3, .int .u16 x.n] 61 (0, 0)) := by
    rw [← hW1, hp_old _ _ (by simp), hp_new _ _ (by simp)]
  have b10 : W1.heap[W.heap.size + 1 + 1]? = some (.cells #[.int .u8 0, .int .u16 0, .int .u32 0, .int .u16 0, .int .u16 0, .int .u16 0, .int .u16 0, .int .u16 0] 61 (0, 0)) := by
    rw [← hW1, hp_new _ _ (by simp)]
  have hB1 : Below W.heap.size W W1 := by rw [← hW1]; exact bal (bal (bnew _ _) _) _
  simp only [hW1]
  clear hW1
  refine (HMY.out _ _ _).mono ?_
  rintro e w2 ⟨rfl, hB2⟩
  have HB2 := Lib.hid (bt hB1 hB2)
  have c6 := bblk hB2 b6
  have c7 := bblk hB2 b7
  have c10 := bblk hB2 b10
  clear hB1 hB2 b6 b7 b10
  obtain ⟨bg, hbg⟩ : ∃ bg, W.heap.size = bg := ⟨_, rfl⟩
  obtain ⟨bx, hbx⟩ : ∃ bx, bg + 1 = bx := ⟨_, rfl⟩
  obtain ⟨br, hbr⟩ : ∃ br, bx + 1 = br := ⟨_, rfl⟩
  rw [hbg] at c6 c7 c10
  rw [hbx] at c7 c10
  rw [hbr] at c10
  simp only [hbg, hbx, hbr]
  have HBX : Hid (W.heap.size = bg ∧ bg + 1 = bx ∧ bx + 1 = br) := Lib.hid ⟨hbg, hbx, hbr⟩
  have hne : bx ≠ br := by omega
  have hne' : br ≠ bx := by omega
  have HBR : Hid (W.heap.size ≤ br) := Lib.hid (by omega)
  clear hbg hbx hbr
  have q0 := cl_of c7 0
  have q1 := cl_of c7 1
  have q2 := cl_of c7 2
  have q3 := cl_of c7 3
  have q4 := cl_of c7 4
  have q5 := cl_of c7 5
  have q6 := cl_of c7 6
  have q7 := cl_of c7 7
  have r0 := cl_of c10 0
  have r1 := cl_of c10 1
  have r2 := cl_of c10 2
  have r3 := cl_of c10 3
  have r4 := cl_of c10 4
  have r5 := cl_of c10 5
  have r6 := cl_of c10 6
  have r7 := cl_of c10 7
  have fz2 := fz_of c10
  clear c6 c7 c10
  go_wp2_with fail
  refine bodyPost_ret (v := .tuple #[.agg (ic Ino.zero), .int .i64 1]) (by simp [results, Tryz.results26, go_sem, hne, hne', ic, Ino.zero, Ino.setn, Ino.setd, r0, r1, r2, r3, r4, r5, r6, r7]) rfl ?_
  refine ⟨rfl, ?_⟩
  repeat (refine Below.setCell ?_ HBR.out _)
  exact HB2.out
set_option maxHeartbeats 8000000 in
theorem bbegin_nil  (W : World) :
    Calls Tryz.prog 27 #[.pointer none, gv i b j, .agg (ic x), .int .u16 1] W fun e W' => e = .returned (.tuple #[.agg (ic Ino.zero), .int .i64 1]) ∧ Below W.heap.size W W' := by
  by_cases p2 : x.n = 0
  · have e2 : (x.n == 0) = true := by simp; omega
    have HMY := Lib.hid (fun (vv cc : Value) (w' : World) => bmay_nil (gv i b j) (.agg (ic x)) vv cc w' ⟨i, b, j, rfl⟩ ⟨x, rfl⟩)
    unfold gv ic at *
    try clear p2
    go_enter Tryz.func27, Tryz.ntmps27
    go_wp2_with fail
    obtain ⟨W1, hW1⟩ : ∃ W1, ((W.alloc (.cells #[.int .i64 i, .int .i64 b, .int .i64 j] 56)).alloc (.cells #[.int .u8 x.k, .int .u16 x.l, .int .u32 x.s, .int .u16 x.d0, .int .u16 x.d1, .int .u16 x.d2, .int .u16 x.d3, .int .u16 x.n] 61)).alloc (.cells #[.int .u8 0, .int .u16 0, .int .u32 0, .int .u16 0, .int .u16 0, .int .u16 0, .int .u16 0, .int .u16 0] 61) = W1 := ⟨_, rfl⟩
    have b6 : W1.heap[W.heap.size]? = some (.cells #[.int .i64 i, .int .i64 b, .int .i64 j] 56 (0, 0)) := by
      rw [← hW1, hp_old _ _ (by simp; try omega), hp_old _ _ (by simp), hp_new _ _ rfl]
    have b7 : W1.heap[W.heap.size + 1]? = some (.cells #[.int .u8 x.k, .int .u16 x.l, .int .u32 x.s, .int .u16 x.d0, .int .u16 x.d1, .int .u16 x.d2, .int .u16 x.d3, .int .u16 x.n] 61 (0, 0)) := by
      rw [← hW1, hp_old _ _ (by simp), hp_new _ _ (by simp)]
    have b10 : W1.heap[W.heap.size + 1 + 1]? = some (.cells #[.int .u8 0, .int .u16 0, .int .u32 0, .int .u16 0, .int .u16 0, .int .u16 0, .int .u16 0, .int .u16 0] 61 (0, 0)) := by
      rw [← hW1, hp_new _ _ (by simp)]
    have hB1 : Below W.heap.size W W1 := by rw [← hW1]; exact bal (bal (bnew _ _) _) _
    simp only [hW1]
    clear hW1
    refine (HMY.out _ _ _).mono ?_
    rintro e w2 ⟨rfl, hB2⟩
    have HB2 := Lib.hid (bt hB1 hB2)
    have c6 := bblk hB2 b6
    have c7 := bblk hB2 b7
    have c10 := bblk hB2 b10
    clear hB1 hB2 b6 b7 b10
    obtain ⟨bg, hbg⟩ : ∃ bg, W.heap.size = bg := ⟨_, rfl⟩
    obtain ⟨bx, hbx⟩ : ∃ bx, bg + 1 = bx := ⟨_, rfl⟩
    obtain ⟨br, hbr⟩ : ∃ br, bx + 1 = br := ⟨_, rfl⟩
    rw [hbg] at c6 c7 c10
    rw [hbx] at c7 c10
    rw [hbr] at c10
    simp only [hbg, hbx, hbr]
    have HBX : Hid (W.heap.size = bg ∧ bg + 1 = bx ∧ bx + 1 = br) := Lib.hid ⟨hbg, hbx, hbr⟩
    have hne : bx ≠ br := by omega
    have hne' : br ≠ bx := by omega
    have HBR : Hid (W.heap.size ≤ br) := Lib.hid (by omega)
    clear hbg hbx hbr
    have q0 := cl_of c7 0
    have q1 := cl_of c7 1
    have q2 := cl_of c7 2
    have q3 := cl_of c7 3
    have q4 := cl_of c7 4
    have q5 := cl_of c7 5
    have q6 := cl_of c7 6
    have q7 := cl_of c7 7
    have r0 := cl_of c10 0
    have r1 := cl_of c10 1
    have r2 := cl_of c10 2
    have r3 := cl_of c10 3
    have r4 := cl_of c10 4
    have r5 := cl_of c10 5
    have r6 := cl_of c10 6
    have r7 := cl_of c10 7
    have fz2 := fz_of c10
    clear c6 c7 c10
    go_wp2_with fail
    refine bodyPost_ret (v := .tuple #[.agg (ic Ino.zero), .int .i64 1]) (by simp [results, Tryz.results27, go_sem, hne, hne', ic, Ino.zero, Ino.setn, Ino.setd, r0, r1, r2, r3, r4, r5, r6, r7]) rfl ?_
    refine ⟨rfl, ?_⟩
    repeat (refine Below.setCell ?_ HBR.out _)
    exact HB2.out
  · have e2 : (x.n == 0) = false := by simp; exact p2
    have HMY := Lib.hid (fun (vv cc : Value) (w' : World) => bmay_nil (gv i b j) (.agg (ic x)) vv cc w' ⟨i, b, j, rfl⟩ ⟨x, rfl⟩)
    unfold gv ic at *
    try clear p2
    go_enter Tryz.func27, Tryz.ntmps27
    go_wp2_with fail
    obtain ⟨W1, hW1⟩ : ∃ W1, ((W.alloc (.cells #[.int .i64 i, .int .i64 b, .int .i64 j] 56)).alloc (.cells #[.int .u8 x.k, .int .u16 x.l, .int .u32 x.s, .int .u16 x.d0, .int .u16 x.d1, .int .u16 x.d2, .int .u16 x.d3, .int .u16 x.n] 61)).alloc (.cells #[.int .u8 0, .int .u16 0, .int .u32 0, .int .u16 0, .int .u16 0, .int .u16 0, .int .u16 0, .int .u16 0] 61) = W1 := ⟨_, rfl⟩
    have b6 : W1.heap[W.heap.size]? = some (.cells #[.int .i64 i, .int .i64 b, .int .i64 j] 56 (0, 0)) := by
      rw [← hW1, hp_old _ _ (by simp; try omega), hp_old _ _ (by simp), hp_new _ _ rfl]
    have b7 : W1.heap[W.heap.size + 1]? = some (.cells #[.int .u8 x.k, .int .u16 x.l, .int .u32 x.s, .int .u16 x.d0, .int .u16 x.d1, .int .u16 x.d2, .int .u16 x.d3, .int .u16 x.n] 61 (0, 0)) := by
      rw [← hW1, hp_old _ _ (by simp), hp_new _ _ (by simp)]
    have b10 : W1.heap[W.heap.size + 1 + 1]? = some (.cells #[.int .u8 0, .int .u16 0, .int .u32 0, .int .u16 0, .int .u16 0, .int .u16 0, .int .u16 0, .int .u16 0] 61 (0, 0)) := by
      rw [← hW1, hp_new _ _ (by simp)]
    have hB1 : Below W.heap.size W W1 := by rw [← hW1]; exact bal (bal (bnew _ _) _) _
    simp only [hW1]
    clear hW1
    refine (HMY.out _ _ _).mono ?_
    rintro e w2 ⟨rfl, hB2⟩
    have HB2 := Lib.hid (bt hB1 hB2)
    have c6 := bblk hB2 b6
    have c7 := bblk hB2 b7
    have c10 := bblk hB2 b10
    clear hB1 hB2 b6 b7 b10
    obtain ⟨bg, hbg⟩ : ∃ bg, W.heap.size = bg := ⟨_, rfl⟩
    obtain ⟨bx, hbx⟩ : ∃ bx, bg + 1 = bx := ⟨_, rfl⟩
    obtain ⟨br, hbr⟩ : ∃ br, bx + 1 = br := ⟨_, rfl⟩
    rw [hbg] at c6 c7 c10
    rw [hbx] at c7 c10
    rw [hbr] at c10
    simp only [hbg, hbx, hbr]
    have HBX : Hid (W.heap.size = bg ∧ bg + 1 = bx ∧ bx + 1 = br) := Lib.hid ⟨hbg, hbx, hbr⟩
    have hne : bx ≠ br := by omega
    have hne' : br ≠ bx := by omega
    have HBR : Hid (W.heap.size ≤ br) := Lib.hid (by omega)
    clear hbg hbx hbr
    have q0 := cl_of c7 0
    have q1 := cl_of c7 1
    have q2 := cl_of c7 2
    have q3 := cl_of c7 3
    have q4 := cl_of c7 4
    have q5 := cl_of c7 5
    have q6 := cl_of c7 6
    have q7 := cl_of c7 7
    have r0 := cl_of c10 0
    have r1 := cl_of c10 1
    have r2 := cl_of c10 2
    have r3 := cl_of c10 3
    have r4 := cl_of c10 4
    have r5 := cl_of c10 5
    have r6 := cl_of c10 6
    have r7 := cl_of c10 7
    have fz2 := fz_of c10
    clear c6 c7 c10
    go_wp2_with fail
    refine bodyPost_ret (v := .tuple #[.agg (ic Ino.zero), .int .i64 1]) (by simp [results, Tryz.results27, go_sem, hne, hne', ic, Ino.zero, Ino.setn, Ino.setd, r0, r1, r2, r3, r4, r5, r6, r7]) rfl ?_
    refine ⟨rfl, ?_⟩
    repeat (refine Below.setCell ?_ HBR.out _)
    exact HB2.out
set_option maxHeartbeats 8000000 in
theorem bcut_nil  (W : World) :
    Calls Tryz.prog 29 #[.pointer none, gv i b j, .agg (ic x), .int .i64 0] W fun e W' => e = .returned (.tuple #[.agg (ic Ino.zero), .slice none 0 0, .int .i64 1]) ∧ Below W.heap.size W W' := by
  have HMY := Lib.hid (fun (vv cc : Value) (w' : World) => bmay_nil (gv i b j) (.agg (ic x)) vv cc w' ⟨i, b, j, rfl⟩ ⟨x, rfl⟩)
  unfold gv ic at *
  try clear p2
  go_enter Tryz.func29, Tryz.ntmps29
  go_wp2_with fail
  obtain ⟨W1, hW1⟩ : ∃ W1, (((W.alloc (.cells #[.int .i64 i, .int .i64 b, .int .i64 j] 56)).alloc (.cells #[.int .u8 x.k, .int .u16 x.l, .int .u32 x.s, .int .u16 x.d0, .int .u16 x.d1, .int .u16 x.d2, .int .u16 x.d3, .int .u16 x.n] 61)).alloc (.cells #[.int .u8 0, .int .u16 0, .int .u32 0, .int .u16 0, .int .u16 0, .int .u16 0, .int .u16 0, .int .u16 0] 61)).alloc (.cells #[.slice none 0 0] 68) = W1 := ⟨_, rfl⟩
  have b6 : W1.heap[W.heap.size]? = some (.cells #[.int .i64 i, .int .i64 b, .int .i64 j] 56 (0, 0)) := by
    rw [← hW1, hp_old _ _ (by simp; try omega), hp_old _ _ (by simp; try omega), hp_old _ _ (by simp), hp_new _ _ rfl]
  have b7 : W1.heap[W.heap.size + 1]? = some (.cells #[.int .u8 x.k, .int .u16 x.l, .int .u32 x.s, .int .u16 x.d0, .int .u16 x.d1, .int .u16 x.d2, .int .u16 x.d3, .int .u16 x.n] 61 (0, 0)) := by
    rw [← hW1, hp_old _ _ (by simp; try omega), hp_old _ _ (by simp), hp_new _ _ (by simp)]
  have b10 : W1.heap[W.heap.size + 1 + 1]? = some (.cells #[.int .u8 0, .int .u16 0, .int .u32 0, .int .u16 0, .int .u16 0, .int .u16 0, .int .u16 0, .int .u16 0] 61 (0, 0)) := by
    rw [← hW1, hp_old _ _ (by simp; try omega), hp_new _ _ (by simp)]
  have b11 : W1.heap[W.heap.size + 1 + 1 + 1]? = some (.cells #[.slice none 0 0] 68 (0, 0)) := by
    rw [← hW1, hp_new _ _ (by simp)]
  have hB1 : Below W.heap.size W W1 := by rw [← hW1]; exact bal (bal (bal (bnew _ _) _) _) _
  simp only [hW1]
  clear hW1
  refine (HMY.out _ _ _).mono ?_
  rintro e w2 ⟨rfl, hB2⟩
  have HB2 := Lib.hid (bt hB1 hB2)
  have c6 := bblk hB2 b6
  have c7 := bblk hB2 b7
  have c10 := bblk hB2 b10
  have c11 := bblk hB2 b11
  clear hB1 hB2 b6 b7 b10 b11
  obtain ⟨bg, hbg⟩ : ∃ bg, W.heap.size = bg := ⟨_, rfl⟩
  obtain ⟨bx, hbx⟩ : ∃ bx, bg + 1 = bx := ⟨_, rfl⟩
  obtain ⟨br, hbr⟩ : ∃ br, bx + 1 = br := ⟨_, rfl⟩
  obtain ⟨bf, hbf⟩ : ∃ bf, br + 1 = bf := ⟨_, rfl⟩
  rw [hbg] at c6 c7 c10 c11
  rw [hbx] at c7 c10 c11
  rw [hbr] at c10 c11
  rw [hbf] at c11
  simp only [hbg, hbx, hbr, hbf]
  have HBX : Hid (W.heap.size = bg ∧ bg + 1 = bx ∧ bx + 1 = br ∧ br + 1 = bf) := Lib.hid ⟨hbg, hbx, hbr, hbf⟩
  have hne : bx ≠ br := by omega
  have hne' : br ≠ bx := by omega
  have hnf : br ≠ bf := by omega
  have hnf' : bf ≠ br := by omega
  have HBR : Hid (W.heap.size ≤ br ∧ W.heap.size ≤ bf) := Lib.hid (by omega)
  clear hbg hbx hbr hbf
  have q0 := cl_of c7 0
  have q1 := cl_of c7 1
  have q2 := cl_of c7 2
  have q3 := cl_of c7 3
  have q4 := cl_of c7 4
  have q5 := cl_of c7 5
  have q6 := cl_of c7 6
  have q7 := cl_of c7 7
  have r0 := cl_of c10 0
  have r1 := cl_of c10 1
  have r2 := cl_of c10 2
  have r3 := cl_of c10 3
  have r4 := cl_of c10 4
  have r5 := cl_of c10 5
  have r6 := cl_of c10 6
  have r7 := cl_of c10 7
  have fz2 := fz_of c10
  have s11 := cl_of c11 0
  have fz3 := fz_of c11
  clear c6 c7 c10 c11
  go_wp2_with fail
  refine bodyPost_ret (v := .tuple #[.agg (ic Ino.zero), .slice none 0 0, .int .i64 1]) (by simp [results, Tryz.results29, go_sem, hne, hne', hnf, hnf', ic, Ino.zero, r0, r1, r2, r3, r4, r5, r6, r7, s11]) rfl ?_
  refine ⟨rfl, ?_⟩
  repeat (refine Below.setCell ?_ (by first | exact HBR.out.1 | exact HBR.out.2) _)
  exact HB2.out
set_option maxHeartbeats 4000000 in
theorem btell_full {zs : List Int} {v : Value} (h : TJ w0 X p jb N 0 1 40 0 0 (newS N) tb m M false W) (hg : GeoN i b j N) (hx : x.Wf) (hn : x.n ≤ b) (hz : 1 ≤ x.n) (hb : (bsn : Int) = fr i b j 5 + x.n - 1) (hv : SlI .u16 W v zs) (hl : zs.length ≤ 32) (hfit : ¬ ((pget bsn M).isSome = true ∨ M.length < 37)) :
    Calls Tryz.prog 58 #[.pointer (some ⟨tb, 0, none⟩), gv i b j, .agg (ic x), v] W fun e W' => e = .returned (.int .i64 4) ∧ Below W.heap.size W W' := by
  unfold gv ic
  have hfr := fr6 i b j
  have hf5 := fr_bd hg.m (show 5 ≤ 6 by decide)
  have hbN : bsn < N := by have := hg.n; omega
  have hblk := fun W => block_yes (n := x.n) hg.m hz hn W
  rw [← hb] at hblk
  have hB1 : Below W.heap.size W ((W.alloc (.cells #[.int .i64 i, .int .i64 b, .int .i64 j] 56)).alloc (.cells #[.int .u8 x.k, .int .u16 x.l, .int .u32 x.s, .int .u16 x.d0, .int .u16 x.d1, .int .u16 x.d2, .int .u16 x.d3, .int .u16 x.n] 61)) := bal (bnew _ _) _
  have HH := Lib.hid h
  have HB1 := Lib.hid hB1
  have HBL := Lib.hid hblk
  have HL := Lib.hid hl
  have HF := Lib.hid hfit
  have HTS := Lib.hid (tellB_size zs hl)
  have hvk : ∀ W', Below W.heap.size W W' → SlI .u16 W' v zs := fun W' hB => by
    obtain ⟨⟨ao, cap, e, hc⟩, hw⟩ := hv
    refine ⟨⟨ao, cap, e, fun h0 => ?_⟩, hw⟩
    obtain ⟨b, off, e2, hb, hcc⟩ := hc h0
    exact ⟨b, off, e2, Nat.lt_of_lt_of_le hb hB.size, fun j hj => (hB.cell (p := ⟨b, off + j, none⟩) hb).trans (hcc j hj)⟩
  have HVK := Lib.hid hvk
  obtain ⟨ao, cap, rfl⟩ : ∃ ao cap, v = .slice ao zs.length cap := by obtain ⟨⟨ao, cap, e, _⟩, _⟩ := hv; exact ⟨ao, cap, e⟩
  clear h hx hn hz hb hv hl hfit hblk hf5 hfr hB1 hvk
  go_enter Tryz.func58, Tryz.ntmps58
  go_wp2_with fail
  obtain ⟨W1, hW1⟩ : ∃ W1, (W.alloc (.cells #[.int .i64 i, .int .i64 b, .int .i64 j] 56)).alloc (.cells #[.int .u8 x.k, .int .u16 x.l, .int .u32 x.s, .int .u16 x.d0, .int .u16 x.d1, .int .u16 x.d2, .int .u16 x.d3, .int .u16 x.n] 61) = W1 := ⟨_, rfl⟩
  rw [hW1] at HB1
  simp only [hW1]
  clear hW1
  refine (HBL.out _).mono ?_
  rintro e w2 ⟨rfl, hB2⟩
  have HB2 := Lib.hid (bt HB1.out hB2)
  clear hB2
  go_wp2_with fail
  refine (tell_any (HVK.out _ HB2.out) HL.out).mono ?_
  rintro e w3 ⟨rfl, hB3⟩
  have HB3 := Lib.hid (bt HB2.out hB3)
  clear hB3
  have hwr := tx_write (HH.out.of HB3.out) bsn hbN (tellB zs) HTS.out (mx := 37) (by unfold IsMost places; decide) (by decide)
  have HWR := Lib.hid hwr
  clear hwr
  unfold tellB at HWR
  go_wp2_with fail
  refine HWR.out.mono ?_
  rintro e w4 (⟨hyes, -⟩ | ⟨-, rfl, -, hB4⟩)
  · exact absurd hyes HF.out
  · have HB4 := Lib.hid (bt HB3.out hB4)
    clear hB4
    go_wp2_with fail
    go_ret
    exact ⟨rfl, HB4.out⟩
set_option maxHeartbeats 4000000 in
theorem bset_full (h : TJ w0 X p jb N 0 1 40 0 0 (newS N) tb m M false W) (hg : GeoN i b j N) (hm : MayB i b j x v) (hx : x.Wf) (hs : Sz M) (hn1 : 1 ≤ x.n) (hb : (bsn : Int) = fr i b j 5 + x.n - 1) (h0 : 0 ≤ v) (h1 : v < 65536) (page : Nat) (hp4 : 4 ≤ page) (hp : page < 36) (hfit : ¬ ((pget bsn M).isSome = true ∨ M.length < 37)) :
    Calls Tryz.prog 26 #[.pointer (some ⟨tb, 0, none⟩), gv i b j, .agg (ic x), .int .i64 page, .int .u16 v] W fun e W' => e = .returned (.tuple #[.agg (ic Ino.zero), .int .i64 4]) ∧ Below W.heap.size W W' := by
  have hmy := fun W => bmay_yes hm hx h0 h1 (tb := tb) W
  have hnd : needs x page = false := decide_eq_false (fun h => by omega)
  have hnn := fun W => needs_any x page W
  rw [hnd] at hnn
  have htd := fun (W2 : World) (hB : Below W.heap.size W W2) => btold_any (h.of hB) hg hx hm.n hs (fun _ => hb)
  have hlen := toldL_length x hs bsn
  have htl := fun (W2 : World) (X2 : Nat → Prop) (h2 : TJ w0 X2 p jb N 0 1 40 0 0 (newS N) tb m M false W2) (l : Value) (hv : SlI .u16 W2 l ((toldL x M bsn).set (page - 4) v)) => btell_full h2 hg hx hm.n hn1 hb hv (by rw [List.length_set, hlen]; decide) hfit
  unfold gv at hmy htd htl ⊢
  have hB1 : Below W.heap.size W (((W.alloc (.cells #[.int .i64 i, .int .i64 b, .int .i64 j] 56)).alloc (.cells (ic x) 61)).alloc (.cells (ic Ino.zero) 61)) := bal (bal (bnew _ _) _) _
  have HMY := Lib.hid hmy
  have HNN := Lib.hid hnn
  have HTD := Lib.hid htd
  have HTL := Lib.hid htl
  have HH := Lib.hid h
  clear hmy hm hx hnn htd htl h hs hg hfit hb hnd
  have e1 : decide ((page : Int) ≥ 0) = true := decide_eq_true (by omega)
  have e2 : decide ((page : Int) < 36) = true := decide_eq_true (by omega)
  have e3 : decide ((page : Int) < 4) = false := decide_eq_false (by omega)
  unfold ic at *
  go_enter Tryz.func26, Tryz.ntmps26
  go_wp2_with fail
  obtain ⟨W1, hW1⟩ : ∃ W1, ((W.alloc (.cells #[.int .i64 i, .int .i64 b, .int .i64 j] 56)).alloc (.cells #[.int .u8 x.k, .int .u16 x.l, .int .u32 x.s, .int .u16 x.d0, .int .u16 x.d1, .int .u16 x.d2, .int .u16 x.d3, .int .u16 x.n] 61)).alloc (.cells #[.int .u8 0, .int .u16 0, .int .u32 0, .int .u16 0, .int .u16 0, .int .u16 0, .int .u16 0, .int .u16 0] 61) = W1 := ⟨_, rfl⟩
  have b6 : W1.heap[W.heap.size]? = some (.cells #[.int .i64 i, .int .i64 b, .int .i64 j] 56 (0, 0)) := by
    rw [← hW1, hp_old _ _ (by simp; omega), hp_old _ _ (by simp), hp_new _ _ rfl]
  have b7 : W1.heap[W.heap.size + 1]? = some (.cells #[.int .u8 x.k, .int .u16 x.l, .int .u32 x.s, .int .u16 x.d0, .int .u16 x.d1, .int .u16 x.d2, .int .u16 x.d3, .int .u16 x.n] 61 (0, 0)) := by
    rw [← hW1, hp_old _ _ (by simp), hp_new _ _ (by simp)]
  have b10 : W1.heap[W.heap.size + 1 + 1]? = some (.cells #[.int .u8 0, .int .u16 0, .int .u32 0, .int .u16 0, .int .u16 0, .int .u16 0, .int .u16 0, .int .u16 0] 61 (0, 0)) := by
    rw [← hW1, hp_new _ _ (by simp)]
  have hB1' : Below W.heap.size W W1 := by rw [← hW1]; exact hB1
  simp only [hW1]
  clear hW1 hB1
  refine (HMY.out _).mono ?_
  rintro e w2 ⟨rfl, hB2⟩
  have HB2 := Lib.hid (bt hB1' hB2)
  have c6 := bblk hB2 b6
  have c7 := bblk hB2 b7
  have c10 := bblk hB2 b10
  clear hB1' hB2 b6 b7 b10
  obtain ⟨bg, hbg⟩ : ∃ bg, W.heap.size = bg := ⟨_, rfl⟩
  obtain ⟨bx, hbx⟩ : ∃ bx, bg + 1 = bx := ⟨_, rfl⟩
  obtain ⟨br, hbr⟩ : ∃ br, bx + 1 = br := ⟨_, rfl⟩
  rw [hbg] at c6 c7 c10
  rw [hbx] at c7 c10
  rw [hbr] at c10
  simp only [hbg, hbx, hbr]
  have HBX : Hid (W.heap.size = bg ∧ bg + 1 = bx ∧ bx + 1 = br) := Lib.hid ⟨hbg, hbx, hbr⟩
  clear hbg hbx hbr
  have C6 := Lib.hid c6
  have C7 := Lib.hid c7
  have C10 := Lib.hid c10
  have g0 := cl_of c6 0
  have g1 := cl_of c6 1
  have g2 := cl_of c6 2
  have q0 := cl_of c7 0
  have q1 := cl_of c7 1
  have q2 := cl_of c7 2
  have q3 := cl_of c7 3
  have q4 := cl_of c7 4
  have q5 := cl_of c7 5
  have q6 := cl_of c7 6
  have q7 := cl_of c7 7
  clear c6 c7 c10
  go_wp2_with fail
  refine (HNN.out _).mono ?_
  rintro e w3 ⟨rfl, hB3⟩
  have HB3 := Lib.hid (bt HB2.out hB3)
  have c6 := bblk hB3 C6.out
  have c7 := bblk hB3 C7.out
  have c10 := bblk hB3 C10.out
  clear hB3 g0 g1 g2 q0 q1 q2 q3 q4 q5 q6 q7 C6 C7 C10
  have C6 := Lib.hid c6
  have C7 := Lib.hid c7
  have C10 := Lib.hid c10
  have g0 := cl_of c6 0
  have g1 := cl_of c6 1
  have g2 := cl_of c6 2
  have q0 := cl_of c7 0
  have q1 := cl_of c7 1
  have q2 := cl_of c7 2
  have q3 := cl_of c7 3
  have q4 := cl_of c7 4
  have q5 := cl_of c7 5
  have q6 := cl_of c7 6
  have q7 := cl_of c7 7
  clear c6 c7 c10
  go_wp2_with fail
  refine (HTD.out _ HB3.out).mono ?_
  rintro e w4 ⟨lv, rfl, hrow, hB4⟩
  have HB4 := Lib.hid (bt HB3.out hB4)
  have c6 := bblk hB4 C6.out
  have c7 := bblk hB4 C7.out
  have c10 := bblk hB4 C10.out
  have hs10 := blk_lt C10.out
  clear hB4 g0 g1 g2 q0 q1 q2 q3 q4 q5 q6 q7 C6 C7 C10
  obtain ⟨g, cap, rfl⟩ : ∃ g cap, lv = .slice (some ⟨g, 0, none⟩) 32 cap := by
    rcases hrow.2 with ⟨rfl, h0⟩ | ⟨g, c, cur, rfl, _⟩
    · omega
    · exact ⟨_, _, rfl⟩
  have hgr : w3.heap.size ≤ g := by
    rcases hrow.2 with ⟨e, _⟩ | ⟨g', c, cur, e, h0, _⟩
    · cases e
    · cases e; exact h0
  obtain ⟨q, hq⟩ : ∃ q, page - 4 = q := ⟨_, rfl⟩
  rw [hq] at HTL
  have hsb : IntKind.i64.wrap ((page : Int) - 4) = (q : Int) := by rw [i64_sm (by omega) (by omega)]; omega
  have hq32 : q < 32 := by omega
  have hrow0 := ownsRow_base hrow
  obtain ⟨cur, hgb⟩ := ownsRow_type hrow0 rfl
  have hgq : w4.cell? ⟨g, q, none⟩ = some (.int .u16 ((toldL x M bsn).getD q 0)) := ownsRow_cell hrow0 rfl (u16s_get _ (by rw [hlen]; exact hq32))
  have hgf := fz_of hgb q
  obtain ⟨W5, hW5⟩ : ∃ W5, w4.setCell ⟨g, q, none⟩ (.int .u16 v) = W5 := ⟨_, rfl⟩
  have hB5 : Below W.heap.size W W5 := by rw [← hW5]; exact HB4.out.setCell (Nat.le_trans HB3.out.size hgr) _
  have hr5 := ownsRow_set hrow0 q (.int .u16 v)
  rw [hW5] at hr5
  have hu5 : (u16s (toldL x M bsn)).set q (.int .u16 v) = u16s ((toldL x M bsn).set q v) := by simp [u16s, List.map_set]
  rw [hu5] at hr5
  have hsl : SlI .u16 W5 (.slice (some ⟨g, 0, none⟩) 32 cap) ((toldL x M bsn).set q v) := by
    refine ⟨⟨_, cap, by rw [List.length_set, hlen], fun _ => ⟨g, 0, rfl, ownsRow_lt hr5 rfl, fun k hk => ?_⟩⟩, fun z hz => ?_⟩
    · rw [Nat.zero_add]
      exact ownsRow_cell hr5 rfl (u16s_get _ hk)
    · rcases List.mem_or_eq_of_mem_set hz with hz | hz
      · exact toldL_wf x M bsn z hz
      · rw [hz]; simp [Lit.wf, IntKind.min, IntKind.max, IntKind.signed, IntKind.bits]; omega
  have htl5 := HTL.out W5 _ (HH.out.take hB5) _ hsl
  have hk5 : ∀ k, k ≠ g → W5.heap[k]? = w4.heap[k]? := fun k hk => by rw [← hW5]; exact Below.heap_setCell w4 ⟨g, q, none⟩ _ k hk
  have hbx := HBX.out
  have d6 := (hk5 bg (by omega)).trans c6
  have d7 := (hk5 bx (by omega)).trans c7
  have d10 := (hk5 br (by omega)).trans c10
  have HTL5 := Lib.hid htl5
  have D7 := Lib.hid d7
  have D10 := Lib.hid d10
  have HB5 := Lib.hid hB5
  have g0 := cl_of d6 0
  have g1 := cl_of d6 1
  have g2 := cl_of d6 2
  have q0 := cl_of d7 0
  have q1 := cl_of d7 1
  have q2 := cl_of d7 2
  have q3 := cl_of d7 3
  have q4 := cl_of d7 4
  have q5 := cl_of d7 5
  have q6 := cl_of d7 6
  have q7 := cl_of d7 7
  clear c6 c7 c10 d6 d7 d10 hrow hrow0 hgb hr5 hu5 hsl htl5 hk5 hB5 hbx hlen HTL HTD HNN HMY
  go_wp2_with fail
  refine HTL5.out.mono ?_
  rintro e w6 ⟨rfl, hB6⟩
  have d7 := bblk hB6 D7.out
  have c10 := bblk hB6 D10.out
  have HB2 := Lib.hid (bt HB5.out hB6)
  have hbx := HBX.out
  have hne : bx ≠ br := by omega
  have hne' : br ≠ bx := by omega
  have HBR : Hid (W.heap.size ≤ br) := Lib.hid (by omega)
  clear q0 q1 q2 q3 q4 q5 q6 q7 hbx hB6 HB4 hq
  have r0 := cl_of c10 0
  have r1 := cl_of c10 1
  have r2 := cl_of c10 2
  have r3 := cl_of c10 3
  have r4 := cl_of c10 4
  have r5 := cl_of c10 5
  have r6 := cl_of c10 6
  have r7 := cl_of c10 7
  have fz2 := fz_of c10
  have q0 := cl_of d7 0
  have q1 := cl_of d7 1
  have q2 := cl_of d7 2
  have q3 := cl_of d7 3
  have q4 := cl_of d7 4
  have q5 := cl_of d7 5
  have q6 := cl_of d7 6
  have q7 := cl_of d7 7
  clear c10 d7
  go_wp2_with fail
  refine bodyPost_ret (v := .tuple #[.agg (ic Ino.zero), .int .i64 4]) (by simp [results, Tryz.results26, go_sem, hne, hne', ic, Ino.zero, Ino.setn, Ino.setd, r0, r1, r2, r3, r4, r5, r6, r7]) rfl ?_
  refine ⟨rfl, ?_⟩
  repeat (refine Below.setCell ?_ HBR.out _)
  exact HB2.out
set_option maxHeartbeats 4000000 in
theorem bbegin_full (h : TJ w0 X p jb N 0 1 40 0 0 (newS N) tb m M false W) (hg : GeoN i b j N) (hm : MayB i b j x v) (hx : x.Wf) (hn : x.n = 0) (h0 : 1 ≤ v) (h1 : v < 65536) (hb : (bsn : Int) = fr i b j 5 + v - 1) (hfit : ¬ ((pget bsn M).isSome = true ∨ M.length < 37)) :
    Calls Tryz.prog 27 #[.pointer (some ⟨tb, 0, none⟩), gv i b j, .agg (ic x), .int .u16 v] W fun e W' => e = .returned (.tuple #[.agg (ic Ino.zero), .int .i64 4]) ∧ Below W.heap.size W W' := by
  have hmy := fun W => bmay_yes hm hx (by omega) h1 (tb := tb) W
  have htl := fun (W2 : World) (X2 : Nat → Prop) (h2 : TJ w0 X2 p jb N 0 1 40 0 0 (newS N) tb m M false W2) => btell_full (zs := []) (v := .slice none 0 0) h2 hg (Ino.setn_wf hx (by omega) h1) hm.v h0 hb ⟨⟨none, 0, rfl, fun h => absurd h (by simp)⟩, fun z hz => by cases hz⟩ (by decide) hfit
  unfold gv at hmy htl ⊢
  have hB1 : Below W.heap.size W (((W.alloc (.cells #[.int .i64 i, .int .i64 b, .int .i64 j] 56)).alloc (.cells (ic x) 61)).alloc (.cells (ic Ino.zero) 61)) := bal (bal (bnew _ _) _) _
  have HMY := Lib.hid hmy
  have HTL := Lib.hid htl
  have HH := Lib.hid h
  have e0 : (x.n == 0) = true := by simpa using hn
  have ev : (v != 0) = true := by simp; omega
  clear hmy hm hx htl h hg hfit hb hn
  unfold ic at *
  go_enter Tryz.func27, Tryz.ntmps27
  go_wp2_with fail
  obtain ⟨W1, hW1⟩ : ∃ W1, ((W.alloc (.cells #[.int .i64 i, .int .i64 b, .int .i64 j] 56)).alloc (.cells #[.int .u8 x.k, .int .u16 x.l, .int .u32 x.s, .int .u16 x.d0, .int .u16 x.d1, .int .u16 x.d2, .int .u16 x.d3, .int .u16 x.n] 61)).alloc (.cells #[.int .u8 0, .int .u16 0, .int .u32 0, .int .u16 0, .int .u16 0, .int .u16 0, .int .u16 0, .int .u16 0] 61) = W1 := ⟨_, rfl⟩
  have b6 : W1.heap[W.heap.size]? = some (.cells #[.int .i64 i, .int .i64 b, .int .i64 j] 56 (0, 0)) := by
    rw [← hW1, hp_old _ _ (by simp; omega), hp_old _ _ (by simp), hp_new _ _ rfl]
  have b7 : W1.heap[W.heap.size + 1]? = some (.cells #[.int .u8 x.k, .int .u16 x.l, .int .u32 x.s, .int .u16 x.d0, .int .u16 x.d1, .int .u16 x.d2, .int .u16 x.d3, .int .u16 x.n] 61 (0, 0)) := by
    rw [← hW1, hp_old _ _ (by simp), hp_new _ _ (by simp)]
  have b10 : W1.heap[W.heap.size + 1 + 1]? = some (.cells #[.int .u8 0, .int .u16 0, .int .u32 0, .int .u16 0, .int .u16 0, .int .u16 0, .int .u16 0, .int .u16 0] 61 (0, 0)) := by
    rw [← hW1, hp_new _ _ (by simp)]
  have hB1' : Below W.heap.size W W1 := by rw [← hW1]; exact hB1
  simp only [hW1]
  clear hW1 hB1
  refine (HMY.out _).mono ?_
  rintro e w2 ⟨rfl, hB2⟩
  have HB2 := Lib.hid (bt hB1' hB2)
  have c6 := bblk hB2 b6
  have c7 := bblk hB2 b7
  have c10 := bblk hB2 b10
  clear hB1' hB2 b6 b7 b10
  obtain ⟨bg, hbg⟩ : ∃ bg, W.heap.size = bg := ⟨_, rfl⟩
  obtain ⟨bx, hbx⟩ : ∃ bx, bg + 1 = bx := ⟨_, rfl⟩
  obtain ⟨br, hbr⟩ : ∃ br, bx + 1 = br := ⟨_, rfl⟩
  rw [hbg] at c6 c7 c10
  rw [hbx] at c7 c10
  rw [hbr] at c10
  simp only [hbg, hbx, hbr]
  have HBX : Hid (W.heap.size = bg ∧ bg + 1 = bx ∧ bx + 1 = br) := Lib.hid ⟨hbg, hbx, hbr⟩
  have h7 := cl_of c7 7
  have f7 := fz_of c7 7
  obtain ⟨W5, hW5⟩ : ∃ W5, w2.setCell ⟨bx, 7, none⟩ (.int .u16 v) = W5 := ⟨_, rfl⟩
  have hB5 : Below W.heap.size W W5 := by rw [← hW5]; exact HB2.out.setCell (by show W.heap.size ≤ bx; omega) _
  have hk5 : ∀ k, k ≠ bx → W5.heap[k]? = w2.heap[k]? := fun k hk => by rw [← hW5]; exact Below.heap_setCell w2 ⟨bx, 7, none⟩ _ k hk
  have d6 := (hk5 bg (by omega)).trans c6
  have d10 := (hk5 br (by omega)).trans c10
  have d7 : W5.heap[bx]? = some (.cells #[.int .u8 x.k, .int .u16 x.l, .int .u32 x.s, .int .u16 x.d0, .int .u16 x.d1, .int .u16 x.d2, .int .u16 x.d3, .int .u16 v] 61 (0, 0)) := by
    rw [← hW5, blk_here c7 7]; rfl
  have htl5 := HTL.out W5 _ (HH.out.take hB5)
  unfold Ino.setn at htl5
  dsimp only [ic] at htl5
  have HTL5 := Lib.hid htl5
  have D7 := Lib.hid d7
  have D10 := Lib.hid d10
  have HB5 := Lib.hid hB5
  have g0 := cl_of d6 0
  have g1 := cl_of d6 1
  have g2 := cl_of d6 2
  have q0 := cl_of d7 0
  have q1 := cl_of d7 1
  have q2 := cl_of d7 2
  have q3 := cl_of d7 3
  have q4 := cl_of d7 4
  have q5 := cl_of d7 5
  have q6 := cl_of d7 6
  have q7 := cl_of d7 7
  clear c6 c10 d6 d7 d10 htl5 hk5 hB5 hbg hbx hbr HTL HMY
  have p7 : w2.cell? ⟨bx, 7, none⟩ = some (.int .u16 x.n) := h7
  clear c7
  go_wp2_with fail
  refine HTL5.out.mono ?_
  rintro e w6 ⟨rfl, hB6⟩
  have d7 := bblk hB6 D7.out
  have c10 := bblk hB6 D10.out
  have HB2 := Lib.hid (bt HB5.out hB6)
  have hbx := HBX.out
  have hne : bx ≠ br := by omega
  have hne' : br ≠ bx := by omega
  have HBR : Hid (W.heap.size ≤ br) := Lib.hid (by omega)
  clear q0 q1 q2 q3 q4 q5 q6 q7 hbx hB6 h7 f7 p7 hW5
  have r0 := cl_of c10 0
  have r1 := cl_of c10 1
  have r2 := cl_of c10 2
  have r3 := cl_of c10 3
  have r4 := cl_of c10 4
  have r5 := cl_of c10 5
  have r6 := cl_of c10 6
  have r7 := cl_of c10 7
  have fz2 := fz_of c10
  have q0 := cl_of d7 0
  have q1 := cl_of d7 1
  have q2 := cl_of d7 2
  have q3 := cl_of d7 3
  have q4 := cl_of d7 4
  have q5 := cl_of d7 5
  have q6 := cl_of d7 6
  have q7 := cl_of d7 7
  clear c10 d7
  go_wp2_with fail
  refine bodyPost_ret (v := .tuple #[.agg (ic Ino.zero), .int .i64 4]) (by simp [results, Tryz.results27, go_sem, hne, hne', ic, Ino.zero, Ino.setn, Ino.setd, r0, r1, r2, r3, r4, r5, r6, r7]) rfl ?_
  refine ⟨rfl, ?_⟩
  repeat (refine Below.setCell ?_ HBR.out _)
  exact HB2.out
end
end Go.Proofs.YtjjphcnoegaimaaGreat
