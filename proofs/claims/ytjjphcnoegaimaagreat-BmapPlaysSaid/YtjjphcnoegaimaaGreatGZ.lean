/- The document's answer for package bmap: Get, Set, Begin. The document's answer for package bmap: Cut. The document's answer for package bmap: Get, Set, Begin, Cut, All in all cases. -/
import Derived.Test.YtjjphcnoegaimaaGreatGY
import Derived.Test.YtjjphcnoegaimaaGreatHD
import Derived.Test.YtjjphcnoegaimaaGreatBAns
import Derived.Test.YtjjphcnoegaimaaGreatHE
namespace Go.Proofs.YtjjphcnoegaimaaGreat
open Go.RowKit Go.Shelf Go.Maps
set_option maxRecDepth 20000
set_option linter.unusedVariables false
set_option linter.unusedSimpArgs false

section
variable {W W1 W2 W' w : World} {rb sb N bsn : Nat} {M M' : Wl} {Z : Nat → Prop} {i b j v : Int} {x : Ino}
theorem RPost.put8 (h : RPost W rb sb N M' Z W1) {c : Nat} (hc : TyI W1 c) (hl : W.heap.size ≤ c) (y : Ino) : RPost W rb sb N M' Z (put8 W1 c y) :=
  (((((((h.set hc hl).set hc.set hl).set hc.set.set hl).set hc.set.set.set hl).set hc.set.set.set.set hl).set hc.set.set.set.set.set hl).set hc.set.set.set.set.set.set hl).set hc.set.set.set.set.set.set.set hl
theorem belowPut8 {n c : Nat} (h : Below n W W1) (hl : n ≤ c) (y : Ino) : Below n W (put8 W1 c y) :=
  (((((((h.setCell (p := ⟨c, 0, none⟩) hl _).setCell (p := ⟨c, 1, none⟩) hl _).setCell (p := ⟨c, 2, none⟩) hl _).setCell (p := ⟨c, 3, none⟩) hl _).setCell (p := ⟨c, 4, none⟩) hl _).setCell (p := ⟨c, 5, none⟩) hl _).setCell (p := ⟨c, 6, none⟩) hl _).setCell (p := ⟨c, 7, none⟩) hl _
theorem ino_d {x : Ino} {q : Nat} (hq : q < 4) : (#[Value.int .u16 x.d0, .int .u16 x.d1, .int .u16 x.d2, .int .u16 x.d3] : Array Value)[q]? = some (.int .u16 (x.d q)) := by
  have : q = 0 ∨ q = 1 ∨ q = 2 ∨ q = 3 := by omega
  rcases this with rfl | rfl | rfl | rfl <;> rfl
set_option maxHeartbeats 8000000 in
theorem r9get_no (hx : x.Wf) (page : Int) (h : ¬ (MayB i b j x 0 ∧ 0 ≤ page ∧ page < 36)) :
    Calls Tryz.prog 62 #[.pointer (some ⟨rb, 0, none⟩), gv i b j, .agg (ic x), .int .i64 page] W fun e W' => e = .returned (.tuple #[.int .u16 0, .int .i64 2]) ∧ Below W.heap.size W W' := by
  by_cases hm : MayB i b j x 0
  rotate_left
  · have HMY : Hid (∀ w', Calls Tryz.prog 92 #[gv i b j, .agg (ic x), .int .u16 0] w' fun e w2 => e = .returned (.bool false) ∧ Below w'.heap.size w' w2) := Lib.hid (fun w' => r9may_any hx (Int.le_refl 0) (by decide) false (⟨fun e => (by cases e), fun e => absurd e hm⟩) w')
    clear hx h
    unfold gv ic at *
    go_enter Tryz.func62, Tryz.ntmps62
    go_wp2_with fail
    have hB1 : Below W.heap.size W ((W.alloc (.cells #[.int .i64 i, .int .i64 b, .int .i64 j] 56)).alloc (.cells #[.int .u8 x.k, .int .u16 x.l, .int .u32 x.s, .int .u16 x.d0, .int .u16 x.d1, .int .u16 x.d2, .int .u16 x.d3, .int .u16 x.n] 61)) := bal (bnew _ _) _
    refine (HMY.out _).mono ?_
    rintro e w2 ⟨rfl, hB2⟩
    have HB2 := Lib.hid (bt hB1 hB2)
    clear hB1 hB2
    go_wp2_with fail
    go_ret2
    exact ⟨rfl, HB2.out⟩
  by_cases p1 : page < 0
  · have e1 : decide (page < 0) = true := decide_eq_true (by omega)
    have HMY : Hid (∀ w', Calls Tryz.prog 92 #[gv i b j, .agg (ic x), .int .u16 0] w' fun e w2 => e = .returned (.bool true) ∧ Below w'.heap.size w' w2) := Lib.hid (fun w' => r9may_any hx (Int.le_refl 0) (by decide) true (⟨fun _ => hm, fun _ => rfl⟩) w')
    clear hx h
    unfold gv ic at *
    go_enter Tryz.func62, Tryz.ntmps62
    go_wp2_with fail
    have hB1 : Below W.heap.size W ((W.alloc (.cells #[.int .i64 i, .int .i64 b, .int .i64 j] 56)).alloc (.cells #[.int .u8 x.k, .int .u16 x.l, .int .u32 x.s, .int .u16 x.d0, .int .u16 x.d1, .int .u16 x.d2, .int .u16 x.d3, .int .u16 x.n] 61)) := bal (bnew _ _) _
    refine (HMY.out _).mono ?_
    rintro e w2 ⟨rfl, hB2⟩
    have HB2 := Lib.hid (bt hB1 hB2)
    clear hB1 hB2
    go_wp2_with fail
    go_ret2
    exact ⟨rfl, HB2.out⟩
  have p2 : 36 ≤ page := by
    apply Classical.byContradiction
    intro p2
    exact h ⟨hm, by omega, by omega⟩
  have e1 : decide (page < 0) = false := decide_eq_false (by omega)
  have e2 : decide (page ≥ 36) = true := decide_eq_true (by omega)
  have HMY : Hid (∀ w', Calls Tryz.prog 92 #[gv i b j, .agg (ic x), .int .u16 0] w' fun e w2 => e = .returned (.bool true) ∧ Below w'.heap.size w' w2) := Lib.hid (fun w' => r9may_any hx (Int.le_refl 0) (by decide) true (⟨fun _ => hm, fun _ => rfl⟩) w')
  clear hx h
  unfold gv ic at *
  go_enter Tryz.func62, Tryz.ntmps62
  go_wp2_with fail
  have hB1 : Below W.heap.size W ((W.alloc (.cells #[.int .i64 i, .int .i64 b, .int .i64 j] 56)).alloc (.cells #[.int .u8 x.k, .int .u16 x.l, .int .u32 x.s, .int .u16 x.d0, .int .u16 x.d1, .int .u16 x.d2, .int .u16 x.d3, .int .u16 x.n] 61)) := bal (bnew _ _) _
  refine (HMY.out _).mono ?_
  rintro e w2 ⟨rfl, hB2⟩
  have HB2 := Lib.hid (bt hB1 hB2)
  clear hB1 hB2
  go_wp2_with fail
  go_ret2
  exact ⟨rfl, HB2.out⟩
set_option maxHeartbeats 8000000 in
theorem r9get_yes (h : RtS W rb sb N M Z) (hM : Mo M) (hN : N ≤ 1000000) (hg : GeoN i b j N) (hm : MayB i b j x 0) (hx : x.Wf) (hb : x.n ≠ 0 → (bsn : Int) = fr i b j 5 + x.n - 1) (page : Nat) (hp : page < 36) :
    Calls Tryz.prog 62 #[.pointer (some ⟨rb, 0, none⟩), gv i b j, .agg (ic x), .int .i64 page] W fun e W' => e = .returned (.tuple #[.int .u16 (pg x M bsn page), .int .i64 0]) ∧ Below W.heap.size W W' := by
  have e1 : decide ((page : Int) < 0) = false := decide_eq_false (by omega)
  have e2 : decide ((page : Int) ≥ 36) = false := decide_eq_false (by omega)
  have HMY : Hid (∀ w', Calls Tryz.prog 92 #[gv i b j, .agg (ic x), .int .u16 0] w' fun e w2 => e = .returned (.bool true) ∧ Below w'.heap.size w' w2) := Lib.hid (fun w' => r9may_any hx (Int.le_refl 0) (by decide) true (⟨fun _ => hm, fun _ => rfl⟩) w')
  have htd := fun (W2 : World) (hB : Below W.heap.size W W2) => r9told_any (h.of hB) hM.len hN hg hx hm.n hM.sz hb
  have hlen := toldL_length x hM.sz bsn
  unfold gv ic at HMY htd ⊢
  have HTD := Lib.hid htd
  clear htd h hM hN hg hx hm hb
  go_enter Tryz.func62, Tryz.ntmps62
  go_wp2_with fail
  obtain ⟨W1, hW1⟩ : ∃ W1, (W.alloc (.cells #[.int .i64 i, .int .i64 b, .int .i64 j] 56)).alloc (.cells #[.int .u8 x.k, .int .u16 x.l, .int .u32 x.s, .int .u16 x.d0, .int .u16 x.d1, .int .u16 x.d2, .int .u16 x.d3, .int .u16 x.n] 61) = W1 := ⟨_, rfl⟩
  have b6 : W1.heap[W.heap.size]? = some (.cells #[.int .i64 i, .int .i64 b, .int .i64 j] 56 (0, 0)) := by rw [← hW1, hp_old _ _ (by simp), hp_new _ _ rfl]
  have b7 : W1.heap[W.heap.size + 1]? = some (.cells #[.int .u8 x.k, .int .u16 x.l, .int .u32 x.s, .int .u16 x.d0, .int .u16 x.d1, .int .u16 x.d2, .int .u16 x.d3, .int .u16 x.n] 61 (0, 0)) := by rw [← hW1, hp_new _ _ (by simp)]
  have hB1 : Below W.heap.size W W1 := by rw [← hW1]; exact bal (bnew _ _) _
  simp only [hW1]
  clear hW1
  refine (HMY.out _).mono ?_
  rintro e w2 ⟨rfl, hB2⟩
  have c6 := bblk hB2 b6
  have c7 := bblk hB2 b7
  have hBn := bt hB1 hB2
  have q3 := cl_of c7 3
  have q4 := cl_of c7 4
  have q5 := cl_of c7 5
  have q6 := cl_of c7 6
  clear hB1 hB2 b6 b7
  by_cases h4 : page < 4
  · have e3 : decide ((page : Int) < 4) = true := decide_eq_true (by omega)
    have hpg : pg x M bsn page = x.d page := if_pos h4
    have HP := Lib.hid hpg
    have HB2 := Lib.hid hBn
    clear hpg hBn
    have hcell : (w2.alloc (.cells #[.int .u16 x.d0, .int .u16 x.d1, .int .u16 x.d2, .int .u16 x.d3] 59)).cell? ⟨w2.heap.size, page, none⟩ = some (.int .u16 (x.d page)) := by rw [cl_of (hp_new _ _ rfl)]; exact ino_d h4
    go_wp2_with fail
    go_ret2
    exact ⟨by rw [HP.out]; rfl, bal HB2.out _⟩
  · have e3 : decide ((page : Int) < 4) = false := decide_eq_false (by omega)
    have hpg : pg x M bsn page = (toldL x M bsn).getD (page - 4) 0 := if_neg h4
    have HP := Lib.hid hpg
    clear hpg
    obtain ⟨q, hq⟩ : ∃ q, page - 4 = q := ⟨_, rfl⟩
    rw [hq] at HP
    have hsb : IntKind.i64.wrap ((page : Int) - 4) = (q : Int) := by rw [i64_sm (by omega) (by omega)]; omega
    have hq32 : q < 32 := by omega
    have HB3 := Lib.hid (bt hBn (bnew w2 (.cells #[.int .u16 x.d0, .int .u16 x.d1, .int .u16 x.d2, .int .u16 x.d3] 59)))
    have hx2 := blk_lt c7
    have hg2 := blk_lt c6
    clear hBn q3 q4 q5 q6
    have g0 := cl_of c6 0
    have g1 := cl_of c6 1
    have g2 := cl_of c6 2
    have q0 := cl_of c7 0
    have q1 := cl_of c7 1
    have q2 := cl_of c7 2
    have q3 := cl_of c7 3
    have q4 := cl_of c7 4
    have q5 := cl_of c7 5
    have q6 := cl_of c7 6
    have q7 := cl_of c7 7
    clear c6 c7
    go_wp2_with fail
    refine (HTD.out _ HB3.out).mono ?_
    rintro e w4 ⟨lv, rfl, hrow, hB4⟩
    have HB4 := Lib.hid (bt HB3.out hB4)
    clear hB4 g0 g1 g2 q0 q1 q2 q3 q4 q5 q6 q7 hx2 hg2
    obtain ⟨g, cap, rfl⟩ : ∃ g cap, lv = .slice (some ⟨g, 0, none⟩) 32 cap := by
      rcases hrow.2 with ⟨rfl, h0⟩ | ⟨g, c, cur, rfl, _⟩
      · omega
      · exact ⟨_, _, rfl⟩
    have hcell : w4.cell? ⟨g, q, none⟩ = some (.int .u16 ((toldL x M bsn).getD q 0)) := ownsRow_cell (ownsRow_base hrow) rfl (u16s_get _ (by rw [hlen]; exact hq32))
    clear hrow HTD hlen
    go_wp2_with fail
    go_ret2
    exact ⟨by rw [HP.out]; rfl, HB4.out⟩
set_option maxHeartbeats 8000000 in
theorem r9set_no (hx : x.Wf) (h0 : 0 ≤ v) (h1 : v < 65536) (page : Int) (h : ¬ (MayB i b j x v ∧ 0 ≤ page ∧ page < 36)) :
    Calls Tryz.prog 64 #[.pointer (some ⟨rb, 0, none⟩), gv i b j, .agg (ic x), .int .i64 page, .int .u16 v] W fun e W' => e = .returned (.tuple #[.agg (ic Ino.zero), .int .i64 2]) ∧ Below W.heap.size W W' := by
  by_cases hm : MayB i b j x v
  rotate_left
  · have HMY : Hid (∀ w', Calls Tryz.prog 92 #[gv i b j, .agg (ic x), .int .u16 v] w' fun e w2 => e = .returned (.bool false) ∧ Below w'.heap.size w' w2) := Lib.hid (fun w' => r9may_any hx h0 h1 false (⟨fun e => (by cases e), fun e => absurd e hm⟩) w')
    clear hx h hm
    try clear p2
    try clear p1
    unfold gv ic at *
    go_enter Tryz.func64, Tryz.ntmps64
    go_wp2_with fail
    obtain ⟨W1, hW1⟩ : ∃ W1, ((W.alloc (.cells #[.int .i64 i, .int .i64 b, .int .i64 j] 56)).alloc (.cells #[.int .u8 x.k, .int .u16 x.l, .int .u32 x.s, .int .u16 x.d0, .int .u16 x.d1, .int .u16 x.d2, .int .u16 x.d3, .int .u16 x.n] 61)).alloc (.cells #[.int .u8 0, .int .u16 0, .int .u32 0, .int .u16 0, .int .u16 0, .int .u16 0, .int .u16 0, .int .u16 0] 61) = W1 := ⟨_, rfl⟩
    have b6 : W1.heap[W.heap.size]? = some (.cells #[.int .i64 i, .int .i64 b, .int .i64 j] 56 (0, 0)) := by
      rw [← hW1, hp_old _ _ (by simp; try omega), hp_old _ _ (by simp), hp_new _ _ rfl]
    have b7 : W1.heap[W.heap.size + 1]? = some (.cells #[.int .u8 x.k, .int .u16 x.l, .int .u32 x.s, .int .u16 x.d0, .int .u16 x.d1, .int .u16 x.d2, .int .u16 x.d3, .int .u16 x.n] 61 (0, 0)) := by
      rw [← hW1, hp_old _ _ (by simp), hp_new _ _ (by simp)]
    have b10 : W1.heap[W.heap.size + 1 + 1]? = some (.cells #[.int .u8 0, .int .u16 0, .int .u32 0, .int .u16 0, .int .u16 0, .int .u16 0, .int .u16 0, .int .u16 0] 61 (0, 0)) := by
      rw [← hW1, hp_new _ _ (by simp)]
    have hB1 : Below W.heap.size W W1 := by rw [← hW1]; exact bal (bal (bnew _ _) _) _
    simp only [hW1]
    clear hW1
    refine (HMY.out _).mono ?_
    rintro e w2 ⟨rfl, hB2⟩
    have HB2 := Lib.hid (bt hB1 hB2)
    have c6 := bblk hB2 b6
    have c7 := bblk hB2 b7
    have c10 := bblk hB2 b10
    clear hB1 hB2 b6 b7 b10
    obtain ⟨bg, hbg⟩ : ∃ bg, W.heap.size = bg := ⟨_, rfl⟩
    obtain ⟨bx, hbx⟩ : ∃ bx, bg + 1 = bx := ⟨_, rfl⟩
    obtain ⟨br, hbr⟩ : ∃ br, bx + 1 = br := ⟨_, rfl⟩
    rw [hbg] at c6 c7 c10
    rw [hbx] at c7 c10
    rw [hbr] at c10
    simp only [hbg, hbx, hbr]
    have HBX : Hid (W.heap.size = bg ∧ bg + 1 = bx ∧ bx + 1 = br) := Lib.hid ⟨hbg, hbx, hbr⟩
    have hne : bx ≠ br := by omega
    have hne' : br ≠ bx := by omega
    have HBR : Hid (W.heap.size ≤ br) := Lib.hid (by omega)
    clear hbg hbx hbr
    have q0 := cl_of c7 0
    have q1 := cl_of c7 1
    have q2 := cl_of c7 2
    have q3 := cl_of c7 3
    have q4 := cl_of c7 4
    have q5 := cl_of c7 5
    have q6 := cl_of c7 6
    have q7 := cl_of c7 7
    have r0 := cl_of c10 0
    have r1 := cl_of c10 1
    have r2 := cl_of c10 2
    have r3 := cl_of c10 3
    have r4 := cl_of c10 4
    have r5 := cl_of c10 5
    have r6 := cl_of c10 6
    have r7 := cl_of c10 7
    have fz2 := fz_of c10
    clear c6 c7 c10
    go_wp2_with fail
    refine bodyPost_ret (v := .tuple #[.agg (ic Ino.zero), .int .i64 2]) (by simp [results, Tryz.results64, go_sem, hne, hne', ic, Ino.zero, r0, r1, r2, r3, r4, r5, r6, r7]) rfl ?_
    refine ⟨rfl, ?_⟩
    repeat (refine Below.setCell ?_ HBR.out _)
    exact HB2.out
  by_cases p1 : page < 0
  · have e1 : decide (page < 0) = true := decide_eq_true (by omega)
    have HMY : Hid (∀ w', Calls Tryz.prog 92 #[gv i b j, .agg (ic x), .int .u16 v] w' fun e w2 => e = .returned (.bool true) ∧ Below w'.heap.size w' w2) := Lib.hid (fun w' => r9may_any hx h0 h1 true (⟨fun _ => hm, fun _ => rfl⟩) w')
    clear hx h hm
    try clear p2
    try clear p1
    unfold gv ic at *
    go_enter Tryz.func64, Tryz.ntmps64
    go_wp2_with fail
    obtain ⟨W1, hW1⟩ : ∃ W1, ((W.alloc (.cells #[.int .i64 i, .int .i64 b, .int .i64 j] 56)).alloc (.cells #[.int .u8 x.k, .int .u16 x.l, .int .u32 x.s, .int .u16 x.d0, .int .u16 x.d1, .int .u16 x.d2, .int .u16 x.d3, .int .u16 x.n] 61)).alloc (.cells #[.int .u8 0, .int .u16 0, .int .u32 0, .int .u16 0, .int .u16 0, .int .u16 0, .int .u16 0, .int .u16 0] 61) = W1 := ⟨_, rfl⟩
    have b6 : W1.heap[W.heap.size]? = some (.cells #[.int .i64 i, .int .i64 b, .int .i64 j] 56 (0, 0)) := by
      rw [← hW1, hp_old _ _ (by simp; try omega), hp_old _ _ (by simp), hp_new _ _ rfl]
    have b7 : W1.heap[W.heap.size + 1]? = some (.cells #[.int .u8 x.k, .int .u16 x.l, .int .u32 x.s, .int .u16 x.d0, .int .u16 x.d1, .int .u16 x.d2, .int .u16 x.d3, .int .u16 x.n] 61 (0, 0)) := by
      rw [← hW1, hp_old _ _ (by simp), hp_new _ _ (by simp)]
    have b10 : W1.heap[W.heap.size + 1 + 1]? = some (.cells #[.int .u8 0, .int .u16 0, .int .u32 0, .int .u16 0, .int .u16 0, .int .u16 0, .int .u16 0, .int .u16 0] 61 (0, 0)) := by
      rw [← hW1, hp_new _ _ (by simp)]
    have hB1 : Below W.heap.size W W1 := by rw [← hW1]; exact bal (bal (bnew _ _) _) _
    simp only [hW1]
    clear hW1
    refine (HMY.out _).mono ?_
    rintro e w2 ⟨rfl, hB2⟩
    have HB2 := Lib.hid (bt hB1 hB2)
    have c6 := bblk hB2 b6
    have c7 := bblk hB2 b7
    have c10 := bblk hB2 b10
    clear hB1 hB2 b6 b7 b10
    obtain ⟨bg, hbg⟩ : ∃ bg, W.heap.size = bg := ⟨_, rfl⟩
    obtain ⟨bx, hbx⟩ : ∃ bx, bg + 1 = bx := ⟨_, rfl⟩
    obtain ⟨br, hbr⟩ : ∃ br, bx + 1 = br := ⟨_, rfl⟩
    rw [hbg] at c6 c7 c10
    rw [hbx] at c7 c10
    rw [hbr] at c10
    simp only [hbg, hbx, hbr]
    have HBX : Hid (W.heap.size = bg ∧ bg + 1 = bx ∧ bx + 1 = br) := Lib.hid ⟨hbg, hbx, hbr⟩
    have hne : bx ≠ br := by omega
    have hne' : br ≠ bx := by omega
    have HBR : Hid (W.heap.size ≤ br) := Lib.hid (by omega)
    clear hbg hbx hbr
    have q0 := cl_of c7 0
    have q1 := cl_of c7 1
    have q2 := cl_of c7 2
    have q3 := cl_of c7 3
    have q4 := cl_of c7 4
    have q5 := cl_of c7 5
    have q6 := cl_of c7 6
    have q7 := cl_of c7 7
    have r0 := cl_of c10 0
    have r1 := cl_of c10 1
    have r2 := cl_of c10 2
    have r3 := cl_of c10 3
    have r4 := cl_of c10 4
    have r5 := cl_of c10 5
    have r6 := cl_of c10 6
    have r7 := cl_of c10 7
    have fz2 := fz_of c10
    clear c6 c7 c10
    go_wp2_with fail
    refine bodyPost_ret (v := .tuple #[.agg (ic Ino.zero), .int .i64 2]) (by simp [results, Tryz.results64, go_sem, hne, hne', ic, Ino.zero, r0, r1, r2, r3, r4, r5, r6, r7]) rfl ?_
    refine ⟨rfl, ?_⟩
    repeat (refine Below.setCell ?_ HBR.out _)
    exact HB2.out
  have p2 : 36 ≤ page := by
    apply Classical.byContradiction
    intro p2
    exact h ⟨hm, by omega, by omega⟩
  have e1 : decide (page < 0) = false := decide_eq_false (by omega)
  have e2 : decide (page ≥ 36) = true := decide_eq_true (by omega)
  have HMY : Hid (∀ w', Calls Tryz.prog 92 #[gv i b j, .agg (ic x), .int .u16 v] w' fun e w2 => e = .returned (.bool true) ∧ Below w'.heap.size w' w2) := Lib.hid (fun w' => r9may_any hx h0 h1 true (⟨fun _ => hm, fun _ => rfl⟩) w')
  clear hx h hm
  try clear p2
  try clear p1
  unfold gv ic at *
  go_enter Tryz.func64, Tryz.ntmps64
  go_wp2_with fail
  obtain ⟨W1, hW1⟩ : ∃ W1, ((W.alloc (.cells #[.int .i64 i, .int .i64 b, .int .i64 j] 56)).alloc (.cells #[.int .u8 x.k, .int .u16 x.l, .int .u32 x.s, .int .u16 x.d0, .int .u16 x.d1, .int .u16 x.d2, .int .u16 x.d3, .int .u16 x.n] 61)).alloc (.cells #[.int .u8 0, .int .u16 0, .int .u32 0, .int .u16 0, .int .u16 0, .int .u16 0, .int .u16 0, .int .u16 0] 61) = W1 := ⟨_, rfl⟩
  have b6 : W1.heap[W.heap.size]? = some (.cells #[.int .i64 i, .int .i64 b, .int .i64 j] 56 (0, 0)) := by
    rw [← hW1, hp_old _ _ (by simp; try omega), hp_old _ _ (by simp), hp_new _ _ rfl]
  have b7 : W1.heap[W.heap.size + 1]? = some (.cells #[.int .u8 x.k, .int .u16 x.l, .int .u32 x.s, .int .u16 x.d0, .int .u16 x.d1, .int .u16 x.d2, .int .u16 x.d3, .int .u16 x.n] 61 (0, 0)) := by
    rw [← hW1, hp_old _ _ (by simp), hp_new _ _ (by simp)]
  have b10 : W1.heap[W.heap.size + 1 + 1]? = some (.cells #[.int .u8 0, .int .u16 0, .int .u32 0, .int .u16 0, .int .u16 0, .int .u16 0, .int .u16 0, .int .u16 0] 61 (0, 0)) := by
    rw [← hW1, hp_new _ _ (by simp)]
  have hB1 : Below W.heap.size W W1 := by rw [← hW1]; exact bal (bal (bnew _ _) _) _
  simp only [hW1]
  clear hW1
  refine (HMY.out _).mono ?_
  rintro e w2 ⟨rfl, hB2⟩
  have HB2 := Lib.hid (bt hB1 hB2)
  have c6 := bblk hB2 b6
  have c7 := bblk hB2 b7
  have c10 := bblk hB2 b10
  clear hB1 hB2 b6 b7 b10
  obtain ⟨bg, hbg⟩ : ∃ bg, W.heap.size = bg := ⟨_, rfl⟩
  obtain ⟨bx, hbx⟩ : ∃ bx, bg + 1 = bx := ⟨_, rfl⟩
  obtain ⟨br, hbr⟩ : ∃ br, bx + 1 = br := ⟨_, rfl⟩
  rw [hbg] at c6 c7 c10
  rw [hbx] at c7 c10
  rw [hbr] at c10
  simp only [hbg, hbx, hbr]
  have HBX : Hid (W.heap.size = bg ∧ bg + 1 = bx ∧ bx + 1 = br) := Lib.hid ⟨hbg, hbx, hbr⟩
  have hne : bx ≠ br := by omega
  have hne' : br ≠ bx := by omega
  have HBR : Hid (W.heap.size ≤ br) := Lib.hid (by omega)
  clear hbg hbx hbr
  have q0 := cl_of c7 0
  have q1 := cl_of c7 1
  have q2 := cl_of c7 2
  have q3 := cl_of c7 3
  have q4 := cl_of c7 4
  have q5 := cl_of c7 5
  have q6 := cl_of c7 6
  have q7 := cl_of c7 7
  have r0 := cl_of c10 0
  have r1 := cl_of c10 1
  have r2 := cl_of c10 2
  have r3 := cl_of c10 3
  have r4 := cl_of c10 4
  have r5 := cl_of c10 5
  have r6 := cl_of c10 6
  have r7 := cl_of c10 7
  have fz2 := fz_of c10
  clear c6 c7 c10
  go_wp2_with fail
  refine bodyPost_ret (v := .tuple #[.agg (ic Ino.zero), .int .i64 2]) (by simp [results, Tryz.results64, go_sem, hne, hne', ic, Ino.zero, r0, r1, r2, r3, r4, r5, r6, r7]) rfl ?_
  refine ⟨rfl, ?_⟩
  repeat (refine Below.setCell ?_ HBR.out _)
  exact HB2.out
set_option maxHeartbeats 8000000 in
theorem r9begin_no (hx : x.Wf) (h0 : 0 ≤ v) (h1 : v < 65536) (h : ¬ (MayB i b j x v ∧ v ≠ 0 ∧ x.n = 0)) :
    Calls Tryz.prog 65 #[.pointer (some ⟨rb, 0, none⟩), gv i b j, .agg (ic x), .int .u16 v] W fun e W' => e = .returned (.tuple #[.agg (ic Ino.zero), .int .i64 2]) ∧ Below W.heap.size W W' := by
  by_cases hm : MayB i b j x v
  rotate_left
  · have HMY : Hid (∀ w', Calls Tryz.prog 92 #[gv i b j, .agg (ic x), .int .u16 v] w' fun e w2 => e = .returned (.bool false) ∧ Below w'.heap.size w' w2) := Lib.hid (fun w' => r9may_any hx h0 h1 false (⟨fun e => (by cases e), fun e => absurd e hm⟩) w')
    clear hx h hm
    try clear p2
    try clear p1
    unfold gv ic at *
    go_enter Tryz.func65, Tryz.ntmps65
    go_wp2_with fail
    obtain ⟨W1, hW1⟩ : ∃ W1, ((W.alloc (.cells #[.int .i64 i, .int .i64 b, .int .i64 j] 56)).alloc (.cells #[.int .u8 x.k, .int .u16 x.l, .int .u32 x.s, .int .u16 x.d0, .int .u16 x.d1, .int .u16 x.d2, .int .u16 x.d3, .int .u16 x.n] 61)).alloc (.cells #[.int .u8 0, .int .u16 0, .int .u32 0, .int .u16 0, .int .u16 0, .int .u16 0, .int .u16 0, .int .u16 0] 61) = W1 := ⟨_, rfl⟩
    have b6 : W1.heap[W.heap.size]? = some (.cells #[.int .i64 i, .int .i64 b, .int .i64 j] 56 (0, 0)) := by
      rw [← hW1, hp_old _ _ (by simp; try omega), hp_old _ _ (by simp), hp_new _ _ rfl]
    have b7 : W1.heap[W.heap.size + 1]? = some (.cells #[.int .u8 x.k, .int .u16 x.l, .int .u32 x.s, .int .u16 x.d0, .int .u16 x.d1, .int .u16 x.d2, .int .u16 x.d3, .int .u16 x.n] 61 (0, 0)) := by
      rw [← hW1, hp_old _ _ (by simp), hp_new _ _ (by simp)]
    have b10 : W1.heap[W.heap.size + 1 + 1]? = some (.cells #[.int .u8 0, .int .u16 0, .int .u32 0, .int .u16 0, .int .u16 0, .int .u16 0, .int .u16 0, .int .u16 0] 61 (0, 0)) := by
      rw [← hW1, hp_new _ _ (by simp)]
    have hB1 : Below W.heap.size W W1 := by rw [← hW1]; exact bal (bal (bnew _ _) _) _
    simp only [hW1]
    clear hW1
    refine (HMY.out _).mono ?_
    rintro e w2 ⟨rfl, hB2⟩
    have HB2 := Lib.hid (bt hB1 hB2)
    have c6 := bblk hB2 b6
    have c7 := bblk hB2 b7
    have c10 := bblk hB2 b10
    clear hB1 hB2 b6 b7 b10
    obtain ⟨bg, hbg⟩ : ∃ bg, W.heap.size = bg := ⟨_, rfl⟩
    obtain ⟨bx, hbx⟩ : ∃ bx, bg + 1 = bx := ⟨_, rfl⟩
    obtain ⟨br, hbr⟩ : ∃ br, bx + 1 = br := ⟨_, rfl⟩
    rw [hbg] at c6 c7 c10
    rw [hbx] at c7 c10
    rw [hbr] at c10
    simp only [hbg, hbx, hbr]
    have HBX : Hid (W.heap.size = bg ∧ bg + 1 = bx ∧ bx + 1 = br) := Lib.hid ⟨hbg, hbx, hbr⟩
    have hne : bx ≠ br := by omega
    have hne' : br ≠ bx := by omega
    have HBR : Hid (W.heap.size ≤ br) := Lib.hid (by omega)
    clear hbg hbx hbr
    have q0 := cl_of c7 0
    have q1 := cl_of c7 1
    have q2 := cl_of c7 2
    have q3 := cl_of c7 3
    have q4 := cl_of c7 4
    have q5 := cl_of c7 5
    have q6 := cl_of c7 6
    have q7 := cl_of c7 7
    have r0 := cl_of c10 0
    have r1 := cl_of c10 1
    have r2 := cl_of c10 2
    have r3 := cl_of c10 3
    have r4 := cl_of c10 4
    have r5 := cl_of c10 5
    have r6 := cl_of c10 6
    have r7 := cl_of c10 7
    have fz2 := fz_of c10
    clear c6 c7 c10
    go_wp2_with fail
    refine bodyPost_ret (v := .tuple #[.agg (ic Ino.zero), .int .i64 2]) (by simp [results, Tryz.results65, go_sem, hne, hne', ic, Ino.zero, r0, r1, r2, r3, r4, r5, r6, r7]) rfl ?_
    refine ⟨rfl, ?_⟩
    repeat (refine Below.setCell ?_ HBR.out _)
    exact HB2.out
  by_cases p1 : v = 0
  · have e1 : (v == 0) = true := by simp [p1]
    have HMY : Hid (∀ w', Calls Tryz.prog 92 #[gv i b j, .agg (ic x), .int .u16 v] w' fun e w2 => e = .returned (.bool true) ∧ Below w'.heap.size w' w2) := Lib.hid (fun w' => r9may_any hx h0 h1 true (⟨fun _ => hm, fun _ => rfl⟩) w')
    clear hx h hm
    try clear p2
    try clear p1
    unfold gv ic at *
    go_enter Tryz.func65, Tryz.ntmps65
    go_wp2_with fail
    obtain ⟨W1, hW1⟩ : ∃ W1, ((W.alloc (.cells #[.int .i64 i, .int .i64 b, .int .i64 j] 56)).alloc (.cells #[.int .u8 x.k, .int .u16 x.l, .int .u32 x.s, .int .u16 x.d0, .int .u16 x.d1, .int .u16 x.d2, .int .u16 x.d3, .int .u16 x.n] 61)).alloc (.cells #[.int .u8 0, .int .u16 0, .int .u32 0, .int .u16 0, .int .u16 0, .int .u16 0, .int .u16 0, .int .u16 0] 61) = W1 := ⟨_, rfl⟩
    have b6 : W1.heap[W.heap.size]? = some (.cells #[.int .i64 i, .int .i64 b, .int .i64 j] 56 (0, 0)) := by
      rw [← hW1, hp_old _ _ (by simp; try omega), hp_old _ _ (by simp), hp_new _ _ rfl]
    have b7 : W1.heap[W.heap.size + 1]? = some (.cells #[.int .u8 x.k, .int .u16 x.l, .int .u32 x.s, .int .u16 x.d0, .int .u16 x.d1, .int .u16 x.d2, .int .u16 x.d3, .int .u16 x.n] 61 (0, 0)) := by
      rw [← hW1, hp_old _ _ (by simp), hp_new _ _ (by simp)]
    have b10 : W1.heap[W.heap.size + 1 + 1]? = some (.cells #[.int .u8 0, .int .u16 0, .int .u32 0, .int .u16 0, .int .u16 0, .int .u16 0, .int .u16 0, .int .u16 0] 61 (0, 0)) := by
      rw [← hW1, hp_new _ _ (by simp)]
    have hB1 : Below W.heap.size W W1 := by rw [← hW1]; exact bal (bal (bnew _ _) _) _
    simp only [hW1]
    clear hW1
    refine (HMY.out _).mono ?_
    rintro e w2 ⟨rfl, hB2⟩
    have HB2 := Lib.hid (bt hB1 hB2)
    have c6 := bblk hB2 b6
    have c7 := bblk hB2 b7
    have c10 := bblk hB2 b10
    clear hB1 hB2 b6 b7 b10
    obtain ⟨bg, hbg⟩ : ∃ bg, W.heap.size = bg := ⟨_, rfl⟩
    obtain ⟨bx, hbx⟩ : ∃ bx, bg + 1 = bx := ⟨_, rfl⟩
    obtain ⟨br, hbr⟩ : ∃ br, bx + 1 = br := ⟨_, rfl⟩
    rw [hbg] at c6 c7 c10
    rw [hbx] at c7 c10
    rw [hbr] at c10
    simp only [hbg, hbx, hbr]
    have HBX : Hid (W.heap.size = bg ∧ bg + 1 = bx ∧ bx + 1 = br) := Lib.hid ⟨hbg, hbx, hbr⟩
    have hne : bx ≠ br := by omega
    have hne' : br ≠ bx := by omega
    have HBR : Hid (W.heap.size ≤ br) := Lib.hid (by omega)
    clear hbg hbx hbr
    have q0 := cl_of c7 0
    have q1 := cl_of c7 1
    have q2 := cl_of c7 2
    have q3 := cl_of c7 3
    have q4 := cl_of c7 4
    have q5 := cl_of c7 5
    have q6 := cl_of c7 6
    have q7 := cl_of c7 7
    have r0 := cl_of c10 0
    have r1 := cl_of c10 1
    have r2 := cl_of c10 2
    have r3 := cl_of c10 3
    have r4 := cl_of c10 4
    have r5 := cl_of c10 5
    have r6 := cl_of c10 6
    have r7 := cl_of c10 7
    have fz2 := fz_of c10
    clear c6 c7 c10
    go_wp2_with fail
    refine bodyPost_ret (v := .tuple #[.agg (ic Ino.zero), .int .i64 2]) (by simp [results, Tryz.results65, go_sem, hne, hne', ic, Ino.zero, r0, r1, r2, r3, r4, r5, r6, r7]) rfl ?_
    refine ⟨rfl, ?_⟩
    repeat (refine Below.setCell ?_ HBR.out _)
    exact HB2.out
  have p2 : x.n ≠ 0 := fun p2 => h ⟨hm, p1, p2⟩
  have e1 : (v == 0) = false := by simp [p1]
  have e2 : (x.n != 0) = true := by simp [p2]
  have HMY : Hid (∀ w', Calls Tryz.prog 92 #[gv i b j, .agg (ic x), .int .u16 v] w' fun e w2 => e = .returned (.bool true) ∧ Below w'.heap.size w' w2) := Lib.hid (fun w' => r9may_any hx h0 h1 true (⟨fun _ => hm, fun _ => rfl⟩) w')
  clear hx h hm
  try clear p2
  try clear p1
  unfold gv ic at *
  go_enter Tryz.func65, Tryz.ntmps65
  go_wp2_with fail
  obtain ⟨W1, hW1⟩ : ∃ W1, ((W.alloc (.cells #[.int .i64 i, .int .i64 b, .int .i64 j] 56)).alloc (.cells #[.int .u8 x.k, .int .u16 x.l, .int .u32 x.s, .int .u16 x.d0, .int .u16 x.d1, .int .u16 x.d2, .int .u16 x.d3, .int .u16 x.n] 61)).alloc (.cells #[.int .u8 0, .int .u16 0, .int .u32 0, .int .u16 0, .int .u16 0, .int .u16 0, .int .u16 0, .int .u16 0] 61) = W1 := ⟨_, rfl⟩
  have b6 : W1.heap[W.heap.size]? = some (.cells #[.int .i64 i, .int .i64 b, .int .i64 j] 56 (0, 0)) := by
    rw [← hW1, hp_old _ _ (by simp; try omega), hp_old _ _ (by simp), hp_new _ _ rfl]
  have b7 : W1.heap[W.heap.size + 1]? = some (.cells #[.int .u8 x.k, .int .u16 x.l, .int .u32 x.s, .int .u16 x.d0, .int .u16 x.d1, .int .u16 x.d2, .int .u16 x.d3, .int .u16 x.n] 61 (0, 0)) := by
    rw [← hW1, hp_old _ _ (by simp), hp_new _ _ (by simp)]
  have b10 : W1.heap[W.heap.size + 1 + 1]? = some (.cells #[.int .u8 0, .int .u16 0, .int .u32 0, .int .u16 0, .int .u16 0, .int .u16 0, .int .u16 0, .int .u16 0] 61 (0, 0)) := by
    rw [← hW1, hp_new _ _ (by simp)]
  have hB1 : Below W.heap.size W W1 := by rw [← hW1]; exact bal (bal (bnew _ _) _) _
  simp only [hW1]
  clear hW1
  refine (HMY.out _).mono ?_
  rintro e w2 ⟨rfl, hB2⟩
  have HB2 := Lib.hid (bt hB1 hB2)
  have c6 := bblk hB2 b6
  have c7 := bblk hB2 b7
  have c10 := bblk hB2 b10
  clear hB1 hB2 b6 b7 b10
  obtain ⟨bg, hbg⟩ : ∃ bg, W.heap.size = bg := ⟨_, rfl⟩
  obtain ⟨bx, hbx⟩ : ∃ bx, bg + 1 = bx := ⟨_, rfl⟩
  obtain ⟨br, hbr⟩ : ∃ br, bx + 1 = br := ⟨_, rfl⟩
  rw [hbg] at c6 c7 c10
  rw [hbx] at c7 c10
  rw [hbr] at c10
  simp only [hbg, hbx, hbr]
  have HBX : Hid (W.heap.size = bg ∧ bg + 1 = bx ∧ bx + 1 = br) := Lib.hid ⟨hbg, hbx, hbr⟩
  have hne : bx ≠ br := by omega
  have hne' : br ≠ bx := by omega
  have HBR : Hid (W.heap.size ≤ br) := Lib.hid (by omega)
  clear hbg hbx hbr
  have q0 := cl_of c7 0
  have q1 := cl_of c7 1
  have q2 := cl_of c7 2
  have q3 := cl_of c7 3
  have q4 := cl_of c7 4
  have q5 := cl_of c7 5
  have q6 := cl_of c7 6
  have q7 := cl_of c7 7
  have r0 := cl_of c10 0
  have r1 := cl_of c10 1
  have r2 := cl_of c10 2
  have r3 := cl_of c10 3
  have r4 := cl_of c10 4
  have r5 := cl_of c10 5
  have r6 := cl_of c10 6
  have r7 := cl_of c10 7
  have fz2 := fz_of c10
  clear c6 c7 c10
  go_wp2_with fail
  refine bodyPost_ret (v := .tuple #[.agg (ic Ino.zero), .int .i64 2]) (by simp [results, Tryz.results65, go_sem, hne, hne', ic, Ino.zero, r0, r1, r2, r3, r4, r5, r6, r7]) rfl ?_
  refine ⟨rfl, ?_⟩
  repeat (refine Below.setCell ?_ HBR.out _)
  exact HB2.out
set_option maxHeartbeats 8000000 in
theorem r9set_dir (hm : MayB i b j x v) (hx : x.Wf) (h0 : 0 ≤ v) (h1 : v < 65536) (page : Nat) (hp : page < 4) :
    Calls Tryz.prog 64 #[.pointer (some ⟨rb, 0, none⟩), gv i b j, .agg (ic x), .int .i64 page, .int .u16 v] W fun e W' => e = .returned (.tuple #[.agg (ic (x.setd page v)), .int .i64 0]) ∧ Below W.heap.size W W' := by
  have e1 : decide ((page : Int) < 0) = false := decide_eq_false (by omega)
  have e2 : decide ((page : Int) ≥ 36) = false := decide_eq_false (by omega)
  have e3 : decide ((page : Int) < 4) = true := decide_eq_true (by omega)
  have HMY : Hid (∀ w', Calls Tryz.prog 92 #[gv i b j, .agg (ic x), .int .u16 v] w' fun e w2 => e = .returned (.bool true) ∧ Below w'.heap.size w' w2) := Lib.hid (fun w' => r9may_any hx h0 h1 true (⟨fun _ => hm, fun _ => rfl⟩) w')
  clear hx hm
  unfold gv ic at *
  go_enter Tryz.func64, Tryz.ntmps64
  go_wp2_with fail
  obtain ⟨W1, hW1⟩ : ∃ W1, ((W.alloc (.cells #[.int .i64 i, .int .i64 b, .int .i64 j] 56)).alloc (.cells #[.int .u8 x.k, .int .u16 x.l, .int .u32 x.s, .int .u16 x.d0, .int .u16 x.d1, .int .u16 x.d2, .int .u16 x.d3, .int .u16 x.n] 61)).alloc (.cells #[.int .u8 0, .int .u16 0, .int .u32 0, .int .u16 0, .int .u16 0, .int .u16 0, .int .u16 0, .int .u16 0] 61) = W1 := ⟨_, rfl⟩
  have b6 : W1.heap[W.heap.size]? = some (.cells #[.int .i64 i, .int .i64 b, .int .i64 j] 56 (0, 0)) := by
    rw [← hW1, hp_old _ _ (by simp; try omega), hp_old _ _ (by simp), hp_new _ _ rfl]
  have b7 : W1.heap[W.heap.size + 1]? = some (.cells #[.int .u8 x.k, .int .u16 x.l, .int .u32 x.s, .int .u16 x.d0, .int .u16 x.d1, .int .u16 x.d2, .int .u16 x.d3, .int .u16 x.n] 61 (0, 0)) := by
    rw [← hW1, hp_old _ _ (by simp), hp_new _ _ (by simp)]
  have b10 : W1.heap[W.heap.size + 1 + 1]? = some (.cells #[.int .u8 0, .int .u16 0, .int .u32 0, .int .u16 0, .int .u16 0, .int .u16 0, .int .u16 0, .int .u16 0] 61 (0, 0)) := by
    rw [← hW1, hp_new _ _ (by simp)]
  have hB1 : Below W.heap.size W W1 := by rw [← hW1]; exact bal (bal (bnew _ _) _) _
  simp only [hW1]
  clear hW1
  refine (HMY.out _).mono ?_
  rintro e w2 ⟨rfl, hB2⟩
  have HB2 := Lib.hid (bt hB1 hB2)
  have c6 := bblk hB2 b6
  have c7 := bblk hB2 b7
  have c10 := bblk hB2 b10
  clear hB1 hB2 b6 b7 b10
  obtain ⟨bg, hbg⟩ : ∃ bg, W.heap.size = bg := ⟨_, rfl⟩
  obtain ⟨bx, hbx⟩ : ∃ bx, bg + 1 = bx := ⟨_, rfl⟩
  obtain ⟨br, hbr⟩ : ∃ br, bx + 1 = br := ⟨_, rfl⟩
  rw [hbg] at c6 c7 c10
  rw [hbx] at c7 c10
  rw [hbr] at c10
  simp only [hbg, hbx, hbr]
  have HBX : Hid (W.heap.size = bg ∧ bg + 1 = bx ∧ bx + 1 = br) := Lib.hid ⟨hbg, hbx, hbr⟩
  have hne : bx ≠ br := by omega
  have hne' : br ≠ bx := by omega
  have HBR : Hid (W.heap.size ≤ br) := Lib.hid (by omega)
  clear hbg hbx hbr
  have HBX1 : Hid (W.heap.size ≤ bx ∧ W.heap.size ≤ br) := Lib.hid (by have := HBX.out; omega)
  have hw2 := blk_lt c10
  have hx2 := blk_lt c7
  have hd1 : bx ≠ w2.heap.size := by omega
  have hd2 : br ≠ w2.heap.size := by omega
  have hd3 : w2.heap.size ≠ bx := by omega
  have hd4 : w2.heap.size ≠ br := by omega
  have fz := fz_of c7
  have HC10 := Lib.hid c10
  have q0 := cl_of c7 0
  have q1 := cl_of c7 1
  have q2 := cl_of c7 2
  have q3 := cl_of c7 3
  have q4 := cl_of c7 4
  have q5 := cl_of c7 5
  have q6 := cl_of c7 6
  have q7 := cl_of c7 7
  have r0 := cl_of c10 0
  have r1 := cl_of c10 1
  have r2 := cl_of c10 2
  have r3 := cl_of c10 3
  have r4 := cl_of c10 4
  have r5 := cl_of c10 5
  have r6 := cl_of c10 6
  have r7 := cl_of c10 7
  have fz2 := fz_of c10
  clear c6 c7 c10
  have HW2 : Hid (W.heap.size ≤ w2.heap.size) := Lib.hid HB2.out.size
  have : page = 0 ∨ page = 1 ∨ page = 2 ∨ page = 3 := by omega
  rcases this with rfl | rfl | rfl | rfl
  · have h8 : ((put8 ((((w2.setCell ⟨bx, 3, none⟩ (.int .u16 v)).setCell ⟨bx, 4, none⟩ (.int .u16 x.d1)).setCell ⟨bx, 5, none⟩ (.int .u16 x.d2)).setCell ⟨bx, 6, none⟩ (.int .u16 x.d3)) br { x with d0 := v }).alloc (.cells #[.int .u16 v, .int .u16 x.d1, .int .u16 x.d2, .int .u16 x.d3] 59)).heap[br]? = some (.cells (ic { x with d0 := v }) 61 (0, 0)) := by
      have e1 : ((((w2.setCell ⟨bx, 3, none⟩ (.int .u16 v)).setCell ⟨bx, 4, none⟩ (.int .u16 x.d1)).setCell ⟨bx, 5, none⟩ (.int .u16 x.d2)).setCell ⟨bx, 6, none⟩ (.int .u16 x.d3)).heap[br]? = some (.cells #[.int .u8 0, .int .u16 0, .int .u32 0, .int .u16 0, .int .u16 0, .int .u16 0, .int .u16 0, .int .u16 0] 61 (0, 0)) := by
        rw [kb_set _ _ _ hne', kb_set _ _ _ hne', kb_set _ _ _ hne', kb_set _ _ _ hne']
        exact HC10.out
      have e2 := put8_here (x := Ino.zero) e1 { x with d0 := v }
      exact (hp_old _ _ (blk_lt e2)).trans e2
    dsimp only [put8, ic] at h8
    have t0 := cl_of h8 0
    have t1 := cl_of h8 1
    have t2 := cl_of h8 2
    have t3 := cl_of h8 3
    have t4 := cl_of h8 4
    have t5 := cl_of h8 5
    have t6 := cl_of h8 6
    have t7 := cl_of h8 7
    clear h8
    go_wp2_with fail
    refine bodyPost_ret (v := .tuple #[.agg (ic { x with d0 := v }), .int .i64 0]) (by simp [results, Tryz.results64, go_sem, ic, t0, t1, t2, t3, t4, t5, t6, t7]) rfl ?_
    refine ⟨rfl, ?_⟩
    refine bal ?_ _
    repeat (first | refine Below.setCell ?_ HBX1.out.1 _ | refine Below.setCell ?_ HBX1.out.2 _)
    exact HB2.out
  · have h8 : ((put8 ((((w2.setCell ⟨bx, 3, none⟩ (.int .u16 x.d0)).setCell ⟨bx, 4, none⟩ (.int .u16 v)).setCell ⟨bx, 5, none⟩ (.int .u16 x.d2)).setCell ⟨bx, 6, none⟩ (.int .u16 x.d3)) br { x with d1 := v }).alloc (.cells #[.int .u16 x.d0, .int .u16 v, .int .u16 x.d2, .int .u16 x.d3] 59)).heap[br]? = some (.cells (ic { x with d1 := v }) 61 (0, 0)) := by
      have e1 : ((((w2.setCell ⟨bx, 3, none⟩ (.int .u16 x.d0)).setCell ⟨bx, 4, none⟩ (.int .u16 v)).setCell ⟨bx, 5, none⟩ (.int .u16 x.d2)).setCell ⟨bx, 6, none⟩ (.int .u16 x.d3)).heap[br]? = some (.cells #[.int .u8 0, .int .u16 0, .int .u32 0, .int .u16 0, .int .u16 0, .int .u16 0, .int .u16 0, .int .u16 0] 61 (0, 0)) := by
        rw [kb_set _ _ _ hne', kb_set _ _ _ hne', kb_set _ _ _ hne', kb_set _ _ _ hne']
        exact HC10.out
      have e2 := put8_here (x := Ino.zero) e1 { x with d1 := v }
      exact (hp_old _ _ (blk_lt e2)).trans e2
    dsimp only [put8, ic] at h8
    have t0 := cl_of h8 0
    have t1 := cl_of h8 1
    have t2 := cl_of h8 2
    have t3 := cl_of h8 3
    have t4 := cl_of h8 4
    have t5 := cl_of h8 5
    have t6 := cl_of h8 6
    have t7 := cl_of h8 7
    clear h8
    go_wp2_with fail
    refine bodyPost_ret (v := .tuple #[.agg (ic { x with d1 := v }), .int .i64 0]) (by simp [results, Tryz.results64, go_sem, ic, t0, t1, t2, t3, t4, t5, t6, t7]) rfl ?_
    refine ⟨rfl, ?_⟩
    refine bal ?_ _
    repeat (first | refine Below.setCell ?_ HBX1.out.1 _ | refine Below.setCell ?_ HBX1.out.2 _)
    exact HB2.out
  · have h8 : ((put8 ((((w2.setCell ⟨bx, 3, none⟩ (.int .u16 x.d0)).setCell ⟨bx, 4, none⟩ (.int .u16 x.d1)).setCell ⟨bx, 5, none⟩ (.int .u16 v)).setCell ⟨bx, 6, none⟩ (.int .u16 x.d3)) br { x with d2 := v }).alloc (.cells #[.int .u16 x.d0, .int .u16 x.d1, .int .u16 v, .int .u16 x.d3] 59)).heap[br]? = some (.cells (ic { x with d2 := v }) 61 (0, 0)) := by
      have e1 : ((((w2.setCell ⟨bx, 3, none⟩ (.int .u16 x.d0)).setCell ⟨bx, 4, none⟩ (.int .u16 x.d1)).setCell ⟨bx, 5, none⟩ (.int .u16 v)).setCell ⟨bx, 6, none⟩ (.int .u16 x.d3)).heap[br]? = some (.cells #[.int .u8 0, .int .u16 0, .int .u32 0, .int .u16 0, .int .u16 0, .int .u16 0, .int .u16 0, .int .u16 0] 61 (0, 0)) := by
        rw [kb_set _ _ _ hne', kb_set _ _ _ hne', kb_set _ _ _ hne', kb_set _ _ _ hne']
        exact HC10.out
      have e2 := put8_here (x := Ino.zero) e1 { x with d2 := v }
      exact (hp_old _ _ (blk_lt e2)).trans e2
    dsimp only [put8, ic] at h8
    have t0 := cl_of h8 0
    have t1 := cl_of h8 1
    have t2 := cl_of h8 2
    have t3 := cl_of h8 3
    have t4 := cl_of h8 4
    have t5 := cl_of h8 5
    have t6 := cl_of h8 6
    have t7 := cl_of h8 7
    clear h8
    go_wp2_with fail
    refine bodyPost_ret (v := .tuple #[.agg (ic { x with d2 := v }), .int .i64 0]) (by simp [results, Tryz.results64, go_sem, ic, t0, t1, t2, t3, t4, t5, t6, t7]) rfl ?_
    refine ⟨rfl, ?_⟩
    refine bal ?_ _
    repeat (first | refine Below.setCell ?_ HBX1.out.1 _ | refine Below.setCell ?_ HBX1.out.2 _)
    exact HB2.out
  · have h8 : ((put8 ((((w2.setCell ⟨bx, 3, none⟩ (.int .u16 x.d0)).setCell ⟨bx, 4, none⟩ (.int .u16 x.d1)).setCell ⟨bx, 5, none⟩ (.int .u16 x.d2)).setCell ⟨bx, 6, none⟩ (.int .u16 v)) br { x with d3 := v }).alloc (.cells #[.int .u16 x.d0, .int .u16 x.d1, .int .u16 x.d2, .int .u16 v] 59)).heap[br]? = some (.cells (ic { x with d3 := v }) 61 (0, 0)) := by
      have e1 : ((((w2.setCell ⟨bx, 3, none⟩ (.int .u16 x.d0)).setCell ⟨bx, 4, none⟩ (.int .u16 x.d1)).setCell ⟨bx, 5, none⟩ (.int .u16 x.d2)).setCell ⟨bx, 6, none⟩ (.int .u16 v)).heap[br]? = some (.cells #[.int .u8 0, .int .u16 0, .int .u32 0, .int .u16 0, .int .u16 0, .int .u16 0, .int .u16 0, .int .u16 0] 61 (0, 0)) := by
        rw [kb_set _ _ _ hne', kb_set _ _ _ hne', kb_set _ _ _ hne', kb_set _ _ _ hne']
        exact HC10.out
      have e2 := put8_here (x := Ino.zero) e1 { x with d3 := v }
      exact (hp_old _ _ (blk_lt e2)).trans e2
    dsimp only [put8, ic] at h8
    have t0 := cl_of h8 0
    have t1 := cl_of h8 1
    have t2 := cl_of h8 2
    have t3 := cl_of h8 3
    have t4 := cl_of h8 4
    have t5 := cl_of h8 5
    have t6 := cl_of h8 6
    have t7 := cl_of h8 7
    clear h8
    go_wp2_with fail
    refine bodyPost_ret (v := .tuple #[.agg (ic { x with d3 := v }), .int .i64 0]) (by simp [results, Tryz.results64, go_sem, ic, t0, t1, t2, t3, t4, t5, t6, t7]) rfl ?_
    refine ⟨rfl, ?_⟩
    refine bal ?_ _
    repeat (first | refine Below.setCell ?_ HBX1.out.1 _ | refine Below.setCell ?_ HBX1.out.2 _)
    exact HB2.out
set_option maxHeartbeats 8000000 in
theorem r9set_none (hm : MayB i b j x v) (hx : x.Wf) (hn : x.n = 0) (h0 : 0 ≤ v) (h1 : v < 65536) (page : Nat) (hp4 : 4 ≤ page) (hp : page < 36) :
    Calls Tryz.prog 64 #[.pointer (some ⟨rb, 0, none⟩), gv i b j, .agg (ic x), .int .i64 page, .int .u16 v] W fun e W' => e = .returned (.tuple #[.agg (ic Ino.zero), .int .i64 3]) ∧ Below W.heap.size W W' := by
  have e1 : decide ((page : Int) < 0) = false := decide_eq_false (by omega)
  have e2 : decide ((page : Int) ≥ 36) = false := decide_eq_false (by omega)
  have e3 : decide ((page : Int) < 4) = false := decide_eq_false (by omega)
  have e4 : (x.n == 0) = true := by simpa using hn
  have HMY : Hid (∀ w', Calls Tryz.prog 92 #[gv i b j, .agg (ic x), .int .u16 v] w' fun e w2 => e = .returned (.bool true) ∧ Below w'.heap.size w' w2) := Lib.hid (fun w' => r9may_any hx h0 h1 true (⟨fun _ => hm, fun _ => rfl⟩) w')
  clear hx hm hn
  unfold gv ic at *
  go_enter Tryz.func64, Tryz.ntmps64
  go_wp2_with fail
  obtain ⟨W1, hW1⟩ : ∃ W1, ((W.alloc (.cells #[.int .i64 i, .int .i64 b, .int .i64 j] 56)).alloc (.cells #[.int .u8 x.k, .int .u16 x.l, .int .u32 x.s, .int .u16 x.d0, .int .u16 x.d1, .int .u16 x.d2, .int .u16 x.d3, .int .u16 x.n] 61)).alloc (.cells #[.int .u8 0, .int .u16 0, .int .u32 0, .int .u16 0, .int .u16 0, .int .u16 0, .int .u16 0, .int .u16 0] 61) = W1 := ⟨_, rfl⟩
  have b6 : W1.heap[W.heap.size]? = some (.cells #[.int .i64 i, .int .i64 b, .int .i64 j] 56 (0, 0)) := by
    rw [← hW1, hp_old _ _ (by simp; try omega), hp_old _ _ (by simp), hp_new _ _ rfl]
  have b7 : W1.heap[W.heap.size + 1]? = some (.cells #[.int .u8 x.k, .int .u16 x.l, .int .u32 x.s, .int .u16 x.d0, .int .u16 x.d1, .int .u16 x.d2, .int .u16 x.d3, .int .u16 x.n] 61 (0, 0)) := by
    rw [← hW1, hp_old _ _ (by simp), hp_new _ _ (by simp)]
  have b10 : W1.heap[W.heap.size + 1 + 1]? = some (.cells #[.int .u8 0, .int .u16 0, .int .u32 0, .int .u16 0, .int .u16 0, .int .u16 0, .int .u16 0, .int .u16 0] 61 (0, 0)) := by
    rw [← hW1, hp_new _ _ (by simp)]
  have hB1 : Below W.heap.size W W1 := by rw [← hW1]; exact bal (bal (bnew _ _) _) _
  simp only [hW1]
  clear hW1
  refine (HMY.out _).mono ?_
  rintro e w2 ⟨rfl, hB2⟩
  have HB2 := Lib.hid (bt hB1 hB2)
  have c6 := bblk hB2 b6
  have c7 := bblk hB2 b7
  have c10 := bblk hB2 b10
  clear hB1 hB2 b6 b7 b10
  obtain ⟨bg, hbg⟩ : ∃ bg, W.heap.size = bg := ⟨_, rfl⟩
  obtain ⟨bx, hbx⟩ : ∃ bx, bg + 1 = bx := ⟨_, rfl⟩
  obtain ⟨br, hbr⟩ : ∃ br, bx + 1 = br := ⟨_, rfl⟩
  rw [hbg] at c6 c7 c10
  rw [hbx] at c7 c10
  rw [hbr] at c10
  simp only [hbg, hbx, hbr]
  have HBX : Hid (W.heap.size = bg ∧ bg + 1 = bx ∧ bx + 1 = br) := Lib.hid ⟨hbg, hbx, hbr⟩
  have hne : bx ≠ br := by omega
  have hne' : br ≠ bx := by omega
  have HBR : Hid (W.heap.size ≤ br) := Lib.hid (by omega)
  clear hbg hbx hbr
  have q0 := cl_of c7 0
  have q1 := cl_of c7 1
  have q2 := cl_of c7 2
  have q3 := cl_of c7 3
  have q4 := cl_of c7 4
  have q5 := cl_of c7 5
  have q6 := cl_of c7 6
  have q7 := cl_of c7 7
  have r0 := cl_of c10 0
  have r1 := cl_of c10 1
  have r2 := cl_of c10 2
  have r3 := cl_of c10 3
  have r4 := cl_of c10 4
  have r5 := cl_of c10 5
  have r6 := cl_of c10 6
  have r7 := cl_of c10 7
  have fz2 := fz_of c10
  clear c6 c7 c10
  go_wp2_with fail
  refine bodyPost_ret (v := .tuple #[.agg (ic Ino.zero), .int .i64 3]) (by simp [results, Tryz.results64, go_sem, hne, hne', ic, Ino.zero, r0, r1, r2, r3, r4, r5, r6, r7]) rfl ?_
  refine ⟨rfl, ?_⟩
  repeat (refine Below.setCell ?_ HBR.out _)
  exact HB2.out
set_option maxHeartbeats 8000000 in
theorem r9set_ind (h : RtS W rb sb N M Z) (hM : Mo M) (hN : N ≤ 1000000) (hg : GeoN i b j N) (hm : MayB i b j x v) (hx : x.Wf) (hn1 : 1 ≤ x.n) (hb : (bsn : Int) = fr i b j 5 + x.n - 1) (h0 : 0 ≤ v) (h1 : v < 65536) (page : Nat) (hp4 : 4 ≤ page) (hp : page < 36) (y : Ino) (z : Int) (hzy : (z = 0 ∧ x = y ∧ fits bsn M) ∨ (z = 4 ∧ Ino.zero = y ∧ ¬ fits bsn M)) :
    Calls Tryz.prog 64 #[.pointer (some ⟨rb, 0, none⟩), gv i b j, .agg (ic x), .int .i64 page, .int .u16 v] W fun e W' => e = .returned (.tuple #[.agg (ic y), .int .i64 z]) ∧ RPost W rb sb N (rput bsn (tellB ((toldL x M bsn).set (page - 4) v)) M 37) Z W' := by
  have e1 : decide ((page : Int) < 0) = false := decide_eq_false (by omega)
  have e2 : decide ((page : Int) ≥ 36) = false := decide_eq_false (by omega)
  have e3 : decide ((page : Int) < 4) = false := decide_eq_false (by omega)
  have e4 : (x.n == 0) = false := by simp; omega
  have HMY : Hid (∀ w', Calls Tryz.prog 92 #[gv i b j, .agg (ic x), .int .u16 v] w' fun e w2 => e = .returned (.bool true) ∧ Below w'.heap.size w' w2) := Lib.hid (fun w' => r9may_any hx h0 h1 true (⟨fun _ => hm, fun _ => rfl⟩) w')
  have htd := fun (W2 : World) (hB : Below W.heap.size W W2) => r9told_any (h.of hB) hM.len hN hg hx hm.n hM.sz (fun _ => hb)
  have hlen := toldL_length x hM.sz bsn
  have hzz : (if (pget bsn M).isSome = true ∨ M.length < 37 then (0 : Int) else 4) = z := by
    rcases hzy with ⟨rfl, -, hf⟩ | ⟨rfl, -, hf⟩
    · exact if_pos hf
    · exact if_neg hf
  have htl := fun (W2 : World) (hB : Below W.heap.size W W2) (l : Value) (hv : SlI .u16 W2 l ((toldL x M bsn).set (page - 4) v)) => r9tell_any (h.of hB) hM.len hN hg hx hm.n hn1 hb hv (by rw [List.length_set, hlen]; decide) z hzz
  have HZY := Lib.hid hzy
  have HH := Lib.hid h
  have HTD := Lib.hid htd
  have HTL := Lib.hid htl
  clear htd htl hzz hzy h hM hN hg hx hm hn1 hb
  unfold gv ic at *
  go_enter Tryz.func64, Tryz.ntmps64
  go_wp2_with fail
  obtain ⟨W1, hW1⟩ : ∃ W1, ((W.alloc (.cells #[.int .i64 i, .int .i64 b, .int .i64 j] 56)).alloc (.cells #[.int .u8 x.k, .int .u16 x.l, .int .u32 x.s, .int .u16 x.d0, .int .u16 x.d1, .int .u16 x.d2, .int .u16 x.d3, .int .u16 x.n] 61)).alloc (.cells #[.int .u8 0, .int .u16 0, .int .u32 0, .int .u16 0, .int .u16 0, .int .u16 0, .int .u16 0, .int .u16 0] 61) = W1 := ⟨_, rfl⟩
  have b6 : W1.heap[W.heap.size]? = some (.cells #[.int .i64 i, .int .i64 b, .int .i64 j] 56 (0, 0)) := by
    rw [← hW1, hp_old _ _ (by simp; try omega), hp_old _ _ (by simp), hp_new _ _ rfl]
  have b7 : W1.heap[W.heap.size + 1]? = some (.cells #[.int .u8 x.k, .int .u16 x.l, .int .u32 x.s, .int .u16 x.d0, .int .u16 x.d1, .int .u16 x.d2, .int .u16 x.d3, .int .u16 x.n] 61 (0, 0)) := by
    rw [← hW1, hp_old _ _ (by simp), hp_new _ _ (by simp)]
  have b10 : W1.heap[W.heap.size + 1 + 1]? = some (.cells #[.int .u8 0, .int .u16 0, .int .u32 0, .int .u16 0, .int .u16 0, .int .u16 0, .int .u16 0, .int .u16 0] 61 (0, 0)) := by
    rw [← hW1, hp_new _ _ (by simp)]
  have hB1 : Below W.heap.size W W1 := by rw [← hW1]; exact bal (bal (bnew _ _) _) _
  simp only [hW1]
  clear hW1
  refine (HMY.out _).mono ?_
  rintro e w2 ⟨rfl, hB2⟩
  have HB2 := Lib.hid (bt hB1 hB2)
  have c6 := bblk hB2 b6
  have c7 := bblk hB2 b7
  have c10 := bblk hB2 b10
  clear hB1 hB2 b6 b7 b10
  obtain ⟨bg, hbg⟩ : ∃ bg, W.heap.size = bg := ⟨_, rfl⟩
  obtain ⟨bx, hbx⟩ : ∃ bx, bg + 1 = bx := ⟨_, rfl⟩
  obtain ⟨br, hbr⟩ : ∃ br, bx + 1 = br := ⟨_, rfl⟩
  rw [hbg] at c6 c7 c10
  rw [hbx] at c7 c10
  rw [hbr] at c10
  simp only [hbg, hbx, hbr]
  have HBX : Hid (W.heap.size = bg ∧ bg + 1 = bx ∧ bx + 1 = br) := Lib.hid ⟨hbg, hbx, hbr⟩
  have hne : bx ≠ br := by omega
  have hne' : br ≠ bx := by omega
  have HBR : Hid (W.heap.size ≤ br) := Lib.hid (by omega)
  clear hbg hbx hbr
  have C6 := Lib.hid c6
  have C7 := Lib.hid c7
  have C10 := Lib.hid c10
  have g0 := cl_of c6 0
  have g1 := cl_of c6 1
  have g2 := cl_of c6 2
  have q0 := cl_of c7 0
  have q1 := cl_of c7 1
  have q2 := cl_of c7 2
  have q3 := cl_of c7 3
  have q4 := cl_of c7 4
  have q5 := cl_of c7 5
  have q6 := cl_of c7 6
  have q7 := cl_of c7 7
  clear c6 c7 c10
  go_wp2_with fail
  refine (HTD.out _ HB2.out).mono ?_
  rintro e w4 ⟨lv, rfl, hrow, hB4⟩
  have HB4 := Lib.hid (bt HB2.out hB4)
  have c6 := bblk hB4 C6.out
  have c7 := bblk hB4 C7.out
  have c10 := bblk hB4 C10.out
  have hs10 := blk_lt C10.out
  clear hB4 g0 g1 g2 q0 q1 q2 q3 q4 q5 q6 q7 C6 C7 C10
  obtain ⟨g, cap, rfl⟩ : ∃ g cap, lv = .slice (some ⟨g, 0, none⟩) 32 cap := by
    rcases hrow.2 with ⟨rfl, h0⟩ | ⟨g, c, cur, rfl, _⟩
    · omega
    · exact ⟨_, _, rfl⟩
  have hgr : w2.heap.size ≤ g := by
    rcases hrow.2 with ⟨e, _⟩ | ⟨g', c, cur, e, h0, _⟩
    · cases e
    · cases e; exact h0
  obtain ⟨q, hq⟩ : ∃ q, page - 4 = q := ⟨_, rfl⟩
  rw [hq] at HTL
  have hsb : IntKind.i64.wrap ((page : Int) - 4) = (q : Int) := by rw [i64_sm (by omega) (by omega)]; omega
  have hq32 : q < 32 := by omega
  have hrow0 := ownsRow_base hrow
  obtain ⟨cur, hgb⟩ := ownsRow_type hrow0 rfl
  have hgq : w4.cell? ⟨g, q, none⟩ = some (.int .u16 ((toldL x M bsn).getD q 0)) := ownsRow_cell hrow0 rfl (u16s_get _ (by rw [hlen]; exact hq32))
  have hgf := fz_of hgb q
  obtain ⟨W5, hW5⟩ : ∃ W5, w4.setCell ⟨g, q, none⟩ (.int .u16 v) = W5 := ⟨_, rfl⟩
  have hB5 : Below W.heap.size W W5 := by rw [← hW5]; exact HB4.out.setCell (Nat.le_trans HB2.out.size hgr) _
  have hr5 := ownsRow_set hrow0 q (.int .u16 v)
  rw [hW5] at hr5
  have hu5 : (u16s (toldL x M bsn)).set q (.int .u16 v) = u16s ((toldL x M bsn).set q v) := by simp [u16s, List.map_set]
  rw [hu5] at hr5
  have hsl : SlI .u16 W5 (.slice (some ⟨g, 0, none⟩) 32 cap) ((toldL x M bsn).set q v) := by
    refine ⟨⟨_, cap, by rw [List.length_set, hlen], fun _ => ⟨g, 0, rfl, ownsRow_lt hr5 rfl, fun k hk => ?_⟩⟩, fun z hz => ?_⟩
    · rw [Nat.zero_add]
      exact ownsRow_cell hr5 rfl (u16s_get _ hk)
    · rcases List.mem_or_eq_of_mem_set hz with hz | hz
      · exact toldL_wf x M bsn z hz
      · rw [hz]; simp [Lit.wf, IntKind.min, IntKind.max, IntKind.signed, IntKind.bits]; omega
  have htl5 := HTL.out W5 hB5 _ hsl
  have hk5 : ∀ k, k ≠ g → W5.heap[k]? = w4.heap[k]? := fun k hk => by rw [← hW5]; exact Below.heap_setCell w4 ⟨g, q, none⟩ _ k hk
  have hbx := HBX.out
  have d6 := (hk5 bg (by omega)).trans c6
  have d7 := (hk5 bx (by omega)).trans c7
  have d10 := (hk5 br (by omega)).trans c10
  have HTL5 := Lib.hid htl5
  have D7 := Lib.hid d7
  have D10 := Lib.hid d10
  have HB5 := Lib.hid hB5
  have g0 := cl_of d6 0
  have g1 := cl_of d6 1
  have g2 := cl_of d6 2
  have q0 := cl_of d7 0
  have q1 := cl_of d7 1
  have q2 := cl_of d7 2
  have q3 := cl_of d7 3
  have q4 := cl_of d7 4
  have q5 := cl_of d7 5
  have q6 := cl_of d7 6
  have q7 := cl_of d7 7
  have HQ := Lib.hid hq
  clear c6 c7 c10 d6 d7 d10 hrow hrow0 hgb hr5 hu5 hsl htl5 hk5 hB5 hbx hq hlen HTL HTD HMY hs10 hgr
  go_wp2_with fail
  refine HTL5.out.mono ?_
  rintro e w6 ⟨rfl, hp6⟩
  have h5 := HH.out.of HB5.out
  have d7 := hp6.blk D7.out (by decide) h5
  have d10 := hp6.blk D10.out (by decide) h5
  have HP6 : Hid (RPost W rb sb N (rput bsn (tellB ((toldL x M bsn).set (page - 4) v)) M 37) Z w6) := Lib.hid (by rw [HQ.out]; exact hp6.pre HB5.out)
  clear g0 g1 g2 q0 q1 q2 q3 q4 q5 q6 q7 hp6 h5 HB5 HB4 HB2
  have HTY : Hid (TyI w6 br) := Lib.hid ⟨_, d10⟩
  have fz2 := fz_of d10
  have r0 := cl_of d10 0
  have r1 := cl_of d10 1
  have r2 := cl_of d10 2
  have r3 := cl_of d10 3
  have r4 := cl_of d10 4
  have r5 := cl_of d10 5
  have r6 := cl_of d10 6
  have r7 := cl_of d10 7
  have s0 := cl_of d7 0
  have s1 := cl_of d7 1
  have s2 := cl_of d7 2
  have s3 := cl_of d7 3
  have s4 := cl_of d7 4
  have s5 := cl_of d7 5
  have s6 := cl_of d7 6
  have s7 := cl_of d7 7
  clear d7 d10
  rcases HZY.out with ⟨rfl, rfl, -⟩ | ⟨rfl, rfl, -⟩
  · go_wp2_with fail
    refine bodyPost_ret (v := .tuple #[.agg (ic x), .int .i64 0]) (by simp [results, Tryz.results64, go_sem, hne, hne', ic, Ino.setn, s0, s1, s2, s3, s4, s5, s6, s7, r0, r1, r2, r3, r4, r5, r6, r7]) rfl ?_
    exact ⟨rfl, HP6.out.put8 HTY.out HBR.out x⟩
  · go_wp2_with fail
    refine bodyPost_ret (v := .tuple #[.agg (ic Ino.zero), .int .i64 4]) (by simp [results, Tryz.results64, go_sem, hne, hne', ic, Ino.zero, r0, r1, r2, r3, r4, r5, r6, r7]) rfl ?_
    exact ⟨rfl, HP6.out.put8 HTY.out HBR.out Ino.zero⟩
set_option maxHeartbeats 8000000 in
theorem r9begin_yes (h : RtS W rb sb N M Z) (hM : Mo M) (hN : N ≤ 1000000) (hg : GeoN i b j N) (hm : MayB i b j x v) (hx : x.Wf) (hn : x.n = 0) (h0 : 1 ≤ v) (h1 : v < 65536) (hb : (bsn : Int) = fr i b j 5 + v - 1) (y : Ino) (z : Int) (hzy : (z = 0 ∧ x.setn v = y ∧ fits bsn M) ∨ (z = 4 ∧ Ino.zero = y ∧ ¬ fits bsn M)) :
    Calls Tryz.prog 65 #[.pointer (some ⟨rb, 0, none⟩), gv i b j, .agg (ic x), .int .u16 v] W fun e W' => e = .returned (.tuple #[.agg (ic y), .int .i64 z]) ∧ RPost W rb sb N (rput bsn (tellB []) M 37) Z W' := by
  have e1 : (v == 0) = false := by simp; omega
  have e2 : (x.n != 0) = false := by simp [hn]
  have HMY : Hid (∀ w', Calls Tryz.prog 92 #[gv i b j, .agg (ic x), .int .u16 v] w' fun e w2 => e = .returned (.bool true) ∧ Below w'.heap.size w' w2) := Lib.hid (fun w' => r9may_any hx (by omega) h1 true (⟨fun _ => hm, fun _ => rfl⟩) w')
  have hzz : (if (pget bsn M).isSome = true ∨ M.length < 37 then (0 : Int) else 4) = z := by
    rcases hzy with ⟨rfl, -, hf⟩ | ⟨rfl, -, hf⟩
    · exact if_pos hf
    · exact if_neg hf
  have htl := fun (W2 : World) (hB : Below W.heap.size W W2) => r9tell_any (zs := []) (v := .slice none 0 0) (h.of hB) hM.len hN hg (Ino.setn_wf hx (by omega) h1) hm.v h0 hb ⟨⟨none, 0, rfl, fun h => absurd h (by simp)⟩, fun z hz => by cases hz⟩ (by decide) z hzz
  have HZY := Lib.hid hzy
  have HH := Lib.hid h
  have HTL := Lib.hid htl
  clear htl hzz hzy h hM hN hg hx hm hn hb
  unfold gv ic at *
  go_enter Tryz.func65, Tryz.ntmps65
  go_wp2_with fail
  obtain ⟨W1, hW1⟩ : ∃ W1, ((W.alloc (.cells #[.int .i64 i, .int .i64 b, .int .i64 j] 56)).alloc (.cells #[.int .u8 x.k, .int .u16 x.l, .int .u32 x.s, .int .u16 x.d0, .int .u16 x.d1, .int .u16 x.d2, .int .u16 x.d3, .int .u16 x.n] 61)).alloc (.cells #[.int .u8 0, .int .u16 0, .int .u32 0, .int .u16 0, .int .u16 0, .int .u16 0, .int .u16 0, .int .u16 0] 61) = W1 := ⟨_, rfl⟩
  have b6 : W1.heap[W.heap.size]? = some (.cells #[.int .i64 i, .int .i64 b, .int .i64 j] 56 (0, 0)) := by
    rw [← hW1, hp_old _ _ (by simp; try omega), hp_old _ _ (by simp), hp_new _ _ rfl]
  have b7 : W1.heap[W.heap.size + 1]? = some (.cells #[.int .u8 x.k, .int .u16 x.l, .int .u32 x.s, .int .u16 x.d0, .int .u16 x.d1, .int .u16 x.d2, .int .u16 x.d3, .int .u16 x.n] 61 (0, 0)) := by
    rw [← hW1, hp_old _ _ (by simp), hp_new _ _ (by simp)]
  have b10 : W1.heap[W.heap.size + 1 + 1]? = some (.cells #[.int .u8 0, .int .u16 0, .int .u32 0, .int .u16 0, .int .u16 0, .int .u16 0, .int .u16 0, .int .u16 0] 61 (0, 0)) := by
    rw [← hW1, hp_new _ _ (by simp)]
  have hB1 : Below W.heap.size W W1 := by rw [← hW1]; exact bal (bal (bnew _ _) _) _
  simp only [hW1]
  clear hW1
  refine (HMY.out _).mono ?_
  rintro e w2 ⟨rfl, hB2⟩
  have HB2 := Lib.hid (bt hB1 hB2)
  have c6 := bblk hB2 b6
  have c7 := bblk hB2 b7
  have c10 := bblk hB2 b10
  clear hB1 hB2 b6 b7 b10
  obtain ⟨bg, hbg⟩ : ∃ bg, W.heap.size = bg := ⟨_, rfl⟩
  obtain ⟨bx, hbx⟩ : ∃ bx, bg + 1 = bx := ⟨_, rfl⟩
  obtain ⟨br, hbr⟩ : ∃ br, bx + 1 = br := ⟨_, rfl⟩
  rw [hbg] at c6 c7 c10
  rw [hbx] at c7 c10
  rw [hbr] at c10
  simp only [hbg, hbx, hbr]
  have HBX : Hid (W.heap.size = bg ∧ bg + 1 = bx ∧ bx + 1 = br) := Lib.hid ⟨hbg, hbx, hbr⟩
  have hne : bx ≠ br := by omega
  have hne' : br ≠ bx := by omega
  have HBR : Hid (W.heap.size ≤ br) := Lib.hid (by omega)
  clear hbg hbx hbr
  have h7 := cl_of c7 7
  have f7 := fz_of c7 7
  have HBXL : Hid (W.heap.size ≤ bx) := Lib.hid (by have := HBX.out; omega)
  obtain ⟨W5, hW5⟩ : ∃ W5, w2.setCell ⟨bx, 7, none⟩ (.int .u16 v) = W5 := ⟨_, rfl⟩
  have hB5 : Below W.heap.size W W5 := by rw [← hW5]; exact HB2.out.setCell HBXL.out _
  have hk5 : ∀ k, k ≠ bx → W5.heap[k]? = w2.heap[k]? := fun k hk => by rw [← hW5]; exact Below.heap_setCell w2 ⟨bx, 7, none⟩ _ k hk
  have hbx := HBX.out
  have d6 := (hk5 bg (by omega)).trans c6
  have d10 := (hk5 br (by omega)).trans c10
  have d7 : W5.heap[bx]? = some (.cells #[.int .u8 x.k, .int .u16 x.l, .int .u32 x.s, .int .u16 x.d0, .int .u16 x.d1, .int .u16 x.d2, .int .u16 x.d3, .int .u16 v] 61 (0, 0)) := by
    rw [← hW5, blk_here c7 7]; rfl
  have htl5 := HTL.out W5 hB5
  unfold Ino.setn at htl5
  dsimp only [ic] at htl5
  have HTL5 := Lib.hid htl5
  have D7 := Lib.hid d7
  have D10 := Lib.hid d10
  have HB5 := Lib.hid hB5
  have g0 := cl_of d6 0
  have g1 := cl_of d6 1
  have g2 := cl_of d6 2
  have q0 := cl_of d7 0
  have q1 := cl_of d7 1
  have q2 := cl_of d7 2
  have q3 := cl_of d7 3
  have q4 := cl_of d7 4
  have q5 := cl_of d7 5
  have q6 := cl_of d7 6
  have q7 := cl_of d7 7
  have p7 : w2.cell? ⟨bx, 7, none⟩ = some (.int .u16 x.n) := h7
  clear c6 c7 c10 d6 d7 d10 htl5 hk5 hB5 hbx HTL HMY
  go_wp2_with fail
  refine HTL5.out.mono ?_
  rintro e w6 ⟨rfl, hp6⟩
  have h5 := HH.out.of HB5.out
  have d7 := hp6.blk D7.out (by decide) h5
  have d10 := hp6.blk D10.out (by decide) h5
  have HP6 := Lib.hid (hp6.pre HB5.out)
  clear g0 g1 g2 q0 q1 q2 q3 q4 q5 q6 q7 hp6 h5 HB5 HB2 h7 f7 p7 hW5
  have HTY : Hid (TyI w6 br) := Lib.hid ⟨_, d10⟩
  have fz2 := fz_of d10
  have r0 := cl_of d10 0
  have r1 := cl_of d10 1
  have r2 := cl_of d10 2
  have r3 := cl_of d10 3
  have r4 := cl_of d10 4
  have r5 := cl_of d10 5
  have r6 := cl_of d10 6
  have r7 := cl_of d10 7
  have s0 := cl_of d7 0
  have s1 := cl_of d7 1
  have s2 := cl_of d7 2
  have s3 := cl_of d7 3
  have s4 := cl_of d7 4
  have s5 := cl_of d7 5
  have s6 := cl_of d7 6
  have s7 := cl_of d7 7
  clear d7 d10
  rcases HZY.out with ⟨rfl, rfl, -⟩ | ⟨rfl, rfl, -⟩
  · go_wp2_with fail
    refine bodyPost_ret (v := .tuple #[.agg (ic (x.setn v)), .int .i64 0]) (by simp [results, Tryz.results65, go_sem, hne, hne', ic, Ino.setn, s0, s1, s2, s3, s4, s5, s6, s7, r0, r1, r2, r3, r4, r5, r6, r7]) rfl ?_
    exact ⟨rfl, HP6.out.put8 HTY.out HBR.out (x.setn v)⟩
  · go_wp2_with fail
    refine bodyPost_ret (v := .tuple #[.agg (ic Ino.zero), .int .i64 4]) (by simp [results, Tryz.results65, go_sem, hne, hne', ic, Ino.zero, r0, r1, r2, r3, r4, r5, r6, r7]) rfl ?_
    exact ⟨rfl, HP6.out.put8 HTY.out HBR.out Ino.zero⟩
end
end Go.Proofs.YtjjphcnoegaimaaGreat

namespace Go.Proofs.YtjjphcnoegaimaaGreat
open Go.RowKit Go.Shelf Go.Maps
set_option maxRecDepth 20000
set_option linter.unusedVariables false
set_option linter.unusedSimpArgs false

/-- A row of which places q .. k-1 are cleared. -/
def zK (l : List Int) (q k : Nat) : List Int := l.take q ++ List.replicate (k - q) 0 ++ l.drop k
theorem zK_self (l : List Int) (q : Nat) : zK l q q = l := by simp [zK]
theorem zK_length {l : List Int} {q k : Nat} (h : q ≤ k) (hk : k ≤ l.length) : (zK l q k).length = l.length := by
  simp only [zK, List.length_append, List.length_take, List.length_replicate, List.length_drop]; omega
theorem zK_set {l : List Int} {q k : Nat} (h : q ≤ k) (hk : k < l.length) : (zK l q k).set k 0 = zK l q (k + 1) := by
  have h1 : (l.take q ++ List.replicate (k - q) 0).length = k := by simp only [List.length_append, List.length_take, List.length_replicate]; omega
  have h2 : l.drop k = l.getD k 0 :: l.drop (k + 1) := by rw [List.getD_eq_getElem?_getD, List.getElem?_eq_getElem hk]; exact List.drop_eq_getElem_cons hk
  unfold zK
  rw [List.set_append_right _ _ (by omega), h1, Nat.sub_self, h2, List.set_cons_zero, show k + 1 - q = (k - q) + 1 by omega, List.replicate_succ']
  simp
theorem zK_get {l : List Int} {q k : Nat} (h : q ≤ k) (hk : k < l.length) : (zK l q k).getD k 0 = l.getD k 0 := by
  have h1 : (l.take q ++ List.replicate (k - q) 0).length = k := by simp only [List.length_append, List.length_take, List.length_replicate]; omega
  unfold zK
  rw [List.getD_eq_getElem?_getD, List.getElem?_append_right (by omega), h1, Nat.sub_self, List.getElem?_drop, List.getD_eq_getElem?_getD, Nat.add_zero]
theorem zK_end {l : List Int} {q k : Nat} (hk : l.length ≤ k) (h : k ≤ l.length ∨ k = q) : zK l q k = cutL l q := by
  unfold zK cutL
  rw [List.drop_of_length_le hk, List.append_nil]
  rcases h with h | rfl
  · rw [show k = l.length by omega]
  · rw [Nat.sub_self, show l.length - k = 0 by omega]
theorem nz_step {l : List Int} {q k : Nat} (h : q ≤ k) (hk : k < l.length) : nz ((l.drop q).take (k + 1 - q)) = nz ((l.drop q).take (k - q)) ++ (if l.getD k 0 ≠ 0 then [l.getD k 0] else []) := by
  have h1 : k - q < (l.drop q).length := by rw [List.length_drop]; omega
  have h2 := take_snocI (l.drop q) h1
  rw [show k + 1 - q = (k - q) + 1 by omega, h2, nz_app]
  have h3 : (l.drop q).getD (k - q) 0 = l.getD k 0 := by
    rw [List.getD_eq_getElem?_getD, List.getElem?_drop, List.getD_eq_getElem?_getD, show q + (k - q) = k by omega]
  rw [h3]
  congr 1
  simp only [nz, List.filter_cons, List.filter_nil]
  by_cases e : l.getD k 0 = 0
  · simp [e]
  · simp [e]
theorem nz_end {l : List Int} {q k : Nat} (hk : l.length ≤ k) : nz ((l.drop q).take (k - q)) = nz (l.drop q) := by
  rw [List.take_of_length_le (by rw [List.length_drop]; omega)]

/-- While a row is cleared and what was not 0 is taken. -/
structure CI (W : World) (n5 bd : Nat) (Wb : World) (t : TypeId) (cs fs : List Int) (v : Value) (wr : World) : Prop where
  row : wr.ownsRow n5 57 1 v fs.length (u16s fs)
  dbl : ∃ cur, wr.heap[bd]? = some (.cells cur t (0, 0)) ∧ ∀ k, k < cs.length → cur[k]? = some (.int .u16 (cs.getD k 0))
  below : Below W.heap.size W wr
  old : ∀ k, k < n5 → k ≠ bd → wr.heap[k]? = Wb.heap[k]?
  d5 : W.heap.size ≤ bd ∧ bd < n5 ∧ n5 ≤ wr.heap.size
section
variable {W Wb wr w' W1 W2 : World} {n5 bd : Nat} {t : TypeId} {cs fs : List Int} {v v' : Value}
theorem CI.cell (h : CI W n5 bd Wb t cs fs v wr) {k : Nat} (hk : k < cs.length) : wr.cell? ⟨bd, k, none⟩ = some (.int .u16 (cs.getD k 0)) := by
  obtain ⟨cur, a, c⟩ := h.dbl
  rw [cl_of a, c k hk]
theorem CI.froz (h : CI W n5 bd Wb t cs fs v wr) (k : Nat) : wr.frozen? ⟨bd, k, none⟩ = false := by
  obtain ⟨cur, a, c⟩ := h.dbl
  exact fz_of a k
theorem CI.nb (h : CI W n5 bd Wb t cs fs v wr) {k : Nat} (e : v.ownBlock = some k) : n5 ≤ k := ino_base h.row e
theorem CI.set (h : CI W n5 bd Wb t cs fs v wr) {k : Nat} (hk : k < cs.length) : CI W n5 bd Wb t (cs.set k 0) fs v (wr.setCell ⟨bd, k, none⟩ (.int .u16 0)) := by
  obtain ⟨cur, a, c⟩ := h.dbl
  have hs : ∀ j, j ≠ bd → (wr.setCell ⟨bd, k, none⟩ (.int .u16 0)).heap[j]? = wr.heap[j]? := fun j hj => Below.heap_setCell wr _ _ j hj
  refine ⟨ownsRow_blockB h.row (fun j e => hs j (by have := h.nb e; have := h.d5; omega)), ⟨_, blk_here a k _, fun j hj => ?_⟩, h.below.setCell h.d5.1 _, fun j h1 h2 => (hs j h2).trans (h.old j h1 h2), ⟨h.d5.1, h.d5.2.1, by simpa [World.setCell] using h.d5.2.2⟩⟩
  rw [List.length_set] at hj
  have hk2 : k < cur.size := (Array.getElem?_eq_some_iff.1 (c k hk)).1
  by_cases e : k = j
  · subst e
    rw [Array.getElem?_setIfInBounds_self_of_lt hk2, List.getD_eq_getElem?_getD, List.getElem?_set_self hk]
    rfl
  · rw [Array.getElem?_setIfInBounds_ne e, c j hj, List.getD_eq_getElem?_getD, List.getD_eq_getElem?_getD, List.getElem?_set_ne e]
theorem CI.app (h : CI W n5 bd Wb t cs fs v wr) {x : Int} {tmp : Obj} (hrow : w'.ownsRow n5 57 1 v' (fs.length + 1) (u16s fs ++ [.int .u16 x])) (hg : (wr.alloc tmp).grownBy w' v.ownBlock) :
    CI W n5 bd Wb t cs (fs ++ [x]) v' w' := by
  have h5 := h.d5
  have hk : ∀ j, j < n5 → w'.heap[j]? = wr.heap[j]? := fun j hj => (hg.block j (by simp; omega) (fun e => by have := h.nb e.symm; omega)).trans (hp_old _ _ (by omega))
  obtain ⟨cur, a, c⟩ := h.dbl
  refine ⟨?_, ⟨cur, (hk bd h5.2.1).trans a, c⟩, Below.grown (h.below.alloc h.below.size tmp) hg (by have := h.below.size; simp; omega) (fun j e => by have := h.nb e; omega), fun j h1 h2 => (hk j h1).trans (h.old j h1 h2), ⟨h5.1, h5.2.1, ?_⟩⟩
  · have e : u16s (fs ++ [x]) = u16s fs ++ [Value.int .u16 x] := by simp [u16s]
    rw [List.length_append, e]
    exact hrow
  · have := hg.size
    simp at this
    omega
theorem CI.slice (h : CI W n5 bd Wb t cs fs v wr) : ∃ ao cp, v = .slice ao fs.length cp := by
  rcases h.row.2 with ⟨rfl, h0⟩ | ⟨g', c, cur, rfl, _⟩
  · exact ⟨_, _, by rw [h0]⟩
  · exact ⟨_, _, rfl⟩
/-- Another block turns; the next row is cleared. -/
theorem CI.next (h : CI W n5 bd Wb t cs fs v wr) {g : Nat} {t2 : TypeId} {ds : List Int} (hg : W.heap.size ≤ g ∧ g < n5) (hB : Below W.heap.size W W1) (hs : W1.heap.size = wr.heap.size) (hk : ∀ k, n5 ≤ k → W1.heap[k]? = wr.heap[k]?)
    (hd : ∃ cur, W1.heap[g]? = some (.cells cur t2 (0, 0)) ∧ ∀ k, k < ds.length → cur[k]? = some (.int .u16 (ds.getD k 0))) : CI W n5 g W1 t2 ds fs v W1 :=
  ⟨ownsRow_blockB h.row (fun j e => hk j (h.nb e)), hd, hB, fun _ _ _ => rfl, hg.1, hg.2, by rw [hs]; exact h.d5.2.2⟩
theorem rowPut8 {c : Nat} {k : Nat} {xs : List Value} (h : W1.ownsRow n5 57 1 v k xs) (hc : c < n5) (y : Ino) : (put8 W1 c y).ownsRow n5 57 1 v k xs :=
  ownsRow_blockB h (fun j e => put8_other W1 (by have := ino_base h e; omega) y)
end
section
variable {W W1 W' : World} {rb sb N bsn : Nat} {M M' : Wl} {Z : Nat → Prop} {i b j : Int} {x : Ino}
theorem RPost.row {B : Nat} {v : Value} {k : Nat} {xs : List Value} (h : RPost W rb sb N M' Z W1) (h0 : RtS W rb sb N M Z) (hr : W.ownsRow B 57 1 v k xs) : W1.ownsRow B 57 1 v k xs := by
  refine ownsRow_blockB hr (fun j e => ?_)
  obtain ⟨cur, hc⟩ := ownsRow_type (ownsRow_base hr) e
  exact (h.blk hc (by decide) h0).trans hc.symm
/-- What Cut answers. -/
def CutR (W : World) (rb sb N : Nat) (Z : Nat → Prop) (A : Ino × List Int × Int × Wl) (e : Ending) (W' : World) : Prop :=
  ∃ u, e = .returned (.tuple #[.agg (ic A.1), u, .int .i64 A.2.2.1]) ∧ W'.ownsRow W.heap.size 57 1 u A.2.1.length (u16s A.2.1) ∧ RPost W rb sb N A.2.2.2 Z W'
set_option maxHeartbeats 8000000 in
theorem r9cut_no (hx : x.Wf) (page : Int) (h : ¬ (MayB i b j x 0 ∧ 0 ≤ page ∧ page ≤ 36)) :
    Calls Tryz.prog 66 #[.pointer (some ⟨rb, 0, none⟩), gv i b j, .agg (ic x), .int .i64 page] W fun e W' => e = .returned (.tuple #[.agg (ic Ino.zero), .slice none 0 0, .int .i64 2]) ∧ Below W.heap.size W W' := by
  by_cases hm : MayB i b j x 0
  rotate_left
  · have HMY : Hid (∀ w', Calls Tryz.prog 92 #[gv i b j, .agg (ic x), .int .u16 0] w' fun e w2 => e = .returned (.bool false) ∧ Below w'.heap.size w' w2) := Lib.hid (fun w' => r9may_any hx (Int.le_refl 0) (by decide) false (⟨fun e => (by cases e), fun e => absurd e hm⟩) w')
    clear hx h
    unfold gv ic at *
    go_enter Tryz.func66, Tryz.ntmps66
    go_wp2_with fail
    obtain ⟨W1, hW1⟩ : ∃ W1, ((W.alloc (.cells #[.int .i64 i, .int .i64 b, .int .i64 j] 56)).alloc (.cells #[.int .u8 x.k, .int .u16 x.l, .int .u32 x.s, .int .u16 x.d0, .int .u16 x.d1, .int .u16 x.d2, .int .u16 x.d3, .int .u16 x.n] 61)).alloc (.cells #[.int .u8 0, .int .u16 0, .int .u32 0, .int .u16 0, .int .u16 0, .int .u16 0, .int .u16 0, .int .u16 0] 61) = W1 := ⟨_, rfl⟩
    have b6 : W1.heap[W.heap.size]? = some (.cells #[.int .i64 i, .int .i64 b, .int .i64 j] 56 (0, 0)) := by
      rw [← hW1, hp_old _ _ (by simp; try omega), hp_old _ _ (by simp), hp_new _ _ rfl]
    have b7 : W1.heap[W.heap.size + 1]? = some (.cells #[.int .u8 x.k, .int .u16 x.l, .int .u32 x.s, .int .u16 x.d0, .int .u16 x.d1, .int .u16 x.d2, .int .u16 x.d3, .int .u16 x.n] 61 (0, 0)) := by
      rw [← hW1, hp_old _ _ (by simp), hp_new _ _ (by simp)]
    have b10 : W1.heap[W.heap.size + 1 + 1]? = some (.cells #[.int .u8 0, .int .u16 0, .int .u32 0, .int .u16 0, .int .u16 0, .int .u16 0, .int .u16 0, .int .u16 0] 61 (0, 0)) := by
      rw [← hW1, hp_new _ _ (by simp)]
    have hB1 : Below W.heap.size W W1 := by rw [← hW1]; exact bal (bal (bnew _ _) _) _
    simp only [hW1]
    clear hW1
    refine (HMY.out _).mono ?_
    rintro e w2 ⟨rfl, hB2⟩
    have HB2 := Lib.hid (bt hB1 hB2)
    have c6 := bblk hB2 b6
    have c7 := bblk hB2 b7
    have c10 := bblk hB2 b10
    clear hB1 hB2 b6 b7 b10
    obtain ⟨bg, hbg⟩ : ∃ bg, W.heap.size = bg := ⟨_, rfl⟩
    obtain ⟨bx, hbx⟩ : ∃ bx, bg + 1 = bx := ⟨_, rfl⟩
    obtain ⟨br, hbr⟩ : ∃ br, bx + 1 = br := ⟨_, rfl⟩
    rw [hbg] at c6 c7 c10
    rw [hbx] at c7 c10
    rw [hbr] at c10
    simp only [hbg, hbx, hbr]
    have HBX : Hid (W.heap.size = bg ∧ bg + 1 = bx ∧ bx + 1 = br) := Lib.hid ⟨hbg, hbx, hbr⟩
    have hne : bx ≠ br := by omega
    have hne' : br ≠ bx := by omega
    have HBR : Hid (W.heap.size ≤ br) := Lib.hid (by omega)
    clear hbg hbx hbr
    have q0 := cl_of c7 0
    have q1 := cl_of c7 1
    have q2 := cl_of c7 2
    have q3 := cl_of c7 3
    have q4 := cl_of c7 4
    have q5 := cl_of c7 5
    have q6 := cl_of c7 6
    have q7 := cl_of c7 7
    have r0 := cl_of c10 0
    have r1 := cl_of c10 1
    have r2 := cl_of c10 2
    have r3 := cl_of c10 3
    have r4 := cl_of c10 4
    have r5 := cl_of c10 5
    have r6 := cl_of c10 6
    have r7 := cl_of c10 7
    have fz2 := fz_of c10
    clear c6 c7 c10
    go_wp2_with fail
    refine bodyPost_ret (v := .tuple #[.agg (ic Ino.zero), .slice none 0 0, .int .i64 2]) (by simp [results, Tryz.results66, go_sem, hne, hne', ic, Ino.zero, r0, r1, r2, r3, r4, r5, r6, r7]) rfl ?_
    refine ⟨rfl, ?_⟩
    repeat (refine Below.setCell ?_ HBR.out _)
    exact HB2.out
  by_cases p1 : page < 0
  · have e1 : decide (page < 0) = true := decide_eq_true (by omega)
    have HMY : Hid (∀ w', Calls Tryz.prog 92 #[gv i b j, .agg (ic x), .int .u16 0] w' fun e w2 => e = .returned (.bool true) ∧ Below w'.heap.size w' w2) := Lib.hid (fun w' => r9may_any hx (Int.le_refl 0) (by decide) true (⟨fun _ => hm, fun _ => rfl⟩) w')
    clear hx h
    unfold gv ic at *
    go_enter Tryz.func66, Tryz.ntmps66
    go_wp2_with fail
    obtain ⟨W1, hW1⟩ : ∃ W1, ((W.alloc (.cells #[.int .i64 i, .int .i64 b, .int .i64 j] 56)).alloc (.cells #[.int .u8 x.k, .int .u16 x.l, .int .u32 x.s, .int .u16 x.d0, .int .u16 x.d1, .int .u16 x.d2, .int .u16 x.d3, .int .u16 x.n] 61)).alloc (.cells #[.int .u8 0, .int .u16 0, .int .u32 0, .int .u16 0, .int .u16 0, .int .u16 0, .int .u16 0, .int .u16 0] 61) = W1 := ⟨_, rfl⟩
    have b6 : W1.heap[W.heap.size]? = some (.cells #[.int .i64 i, .int .i64 b, .int .i64 j] 56 (0, 0)) := by
      rw [← hW1, hp_old _ _ (by simp; try omega), hp_old _ _ (by simp), hp_new _ _ rfl]
    have b7 : W1.heap[W.heap.size + 1]? = some (.cells #[.int .u8 x.k, .int .u16 x.l, .int .u32 x.s, .int .u16 x.d0, .int .u16 x.d1, .int .u16 x.d2, .int .u16 x.d3, .int .u16 x.n] 61 (0, 0)) := by
      rw [← hW1, hp_old _ _ (by simp), hp_new _ _ (by simp)]
    have b10 : W1.heap[W.heap.size + 1 + 1]? = some (.cells #[.int .u8 0, .int .u16 0, .int .u32 0, .int .u16 0, .int .u16 0, .int .u16 0, .int .u16 0, .int .u16 0] 61 (0, 0)) := by
      rw [← hW1, hp_new _ _ (by simp)]
    have hB1 : Below W.heap.size W W1 := by rw [← hW1]; exact bal (bal (bnew _ _) _) _
    simp only [hW1]
    clear hW1
    refine (HMY.out _).mono ?_
    rintro e w2 ⟨rfl, hB2⟩
    have HB2 := Lib.hid (bt hB1 hB2)
    have c6 := bblk hB2 b6
    have c7 := bblk hB2 b7
    have c10 := bblk hB2 b10
    clear hB1 hB2 b6 b7 b10
    obtain ⟨bg, hbg⟩ : ∃ bg, W.heap.size = bg := ⟨_, rfl⟩
    obtain ⟨bx, hbx⟩ : ∃ bx, bg + 1 = bx := ⟨_, rfl⟩
    obtain ⟨br, hbr⟩ : ∃ br, bx + 1 = br := ⟨_, rfl⟩
    rw [hbg] at c6 c7 c10
    rw [hbx] at c7 c10
    rw [hbr] at c10
    simp only [hbg, hbx, hbr]
    have HBX : Hid (W.heap.size = bg ∧ bg + 1 = bx ∧ bx + 1 = br) := Lib.hid ⟨hbg, hbx, hbr⟩
    have hne : bx ≠ br := by omega
    have hne' : br ≠ bx := by omega
    have HBR : Hid (W.heap.size ≤ br) := Lib.hid (by omega)
    clear hbg hbx hbr
    have q0 := cl_of c7 0
    have q1 := cl_of c7 1
    have q2 := cl_of c7 2
    have q3 := cl_of c7 3
    have q4 := cl_of c7 4
    have q5 := cl_of c7 5
    have q6 := cl_of c7 6
    have q7 := cl_of c7 7
    have r0 := cl_of c10 0
    have r1 := cl_of c10 1
    have r2 := cl_of c10 2
    have r3 := cl_of c10 3
    have r4 := cl_of c10 4
    have r5 := cl_of c10 5
    have r6 := cl_of c10 6
    have r7 := cl_of c10 7
    have fz2 := fz_of c10
    clear c6 c7 c10
    go_wp2_with fail
    refine bodyPost_ret (v := .tuple #[.agg (ic Ino.zero), .slice none 0 0, .int .i64 2]) (by simp [results, Tryz.results66, go_sem, hne, hne', ic, Ino.zero, r0, r1, r2, r3, r4, r5, r6, r7]) rfl ?_
    refine ⟨rfl, ?_⟩
    repeat (refine Below.setCell ?_ HBR.out _)
    exact HB2.out
  have p2 : 36 < page := by
    apply Classical.byContradiction
    intro p2
    exact h ⟨hm, by omega, by omega⟩
  have e1 : decide (page < 0) = false := decide_eq_false (by omega)
  have e2 : decide (page > 36) = true := decide_eq_true (by omega)
  have HMY : Hid (∀ w', Calls Tryz.prog 92 #[gv i b j, .agg (ic x), .int .u16 0] w' fun e w2 => e = .returned (.bool true) ∧ Below w'.heap.size w' w2) := Lib.hid (fun w' => r9may_any hx (Int.le_refl 0) (by decide) true (⟨fun _ => hm, fun _ => rfl⟩) w')
  clear hx h
  unfold gv ic at *
  go_enter Tryz.func66, Tryz.ntmps66
  go_wp2_with fail
  obtain ⟨W1, hW1⟩ : ∃ W1, ((W.alloc (.cells #[.int .i64 i, .int .i64 b, .int .i64 j] 56)).alloc (.cells #[.int .u8 x.k, .int .u16 x.l, .int .u32 x.s, .int .u16 x.d0, .int .u16 x.d1, .int .u16 x.d2, .int .u16 x.d3, .int .u16 x.n] 61)).alloc (.cells #[.int .u8 0, .int .u16 0, .int .u32 0, .int .u16 0, .int .u16 0, .int .u16 0, .int .u16 0, .int .u16 0] 61) = W1 := ⟨_, rfl⟩
  have b6 : W1.heap[W.heap.size]? = some (.cells #[.int .i64 i, .int .i64 b, .int .i64 j] 56 (0, 0)) := by
    rw [← hW1, hp_old _ _ (by simp; try omega), hp_old _ _ (by simp), hp_new _ _ rfl]
  have b7 : W1.heap[W.heap.size + 1]? = some (.cells #[.int .u8 x.k, .int .u16 x.l, .int .u32 x.s, .int .u16 x.d0, .int .u16 x.d1, .int .u16 x.d2, .int .u16 x.d3, .int .u16 x.n] 61 (0, 0)) := by
    rw [← hW1, hp_old _ _ (by simp), hp_new _ _ (by simp)]
  have b10 : W1.heap[W.heap.size + 1 + 1]? = some (.cells #[.int .u8 0, .int .u16 0, .int .u32 0, .int .u16 0, .int .u16 0, .int .u16 0, .int .u16 0, .int .u16 0] 61 (0, 0)) := by
    rw [← hW1, hp_new _ _ (by simp)]
  have hB1 : Below W.heap.size W W1 := by rw [← hW1]; exact bal (bal (bnew _ _) _) _
  simp only [hW1]
  clear hW1
  refine (HMY.out _).mono ?_
  rintro e w2 ⟨rfl, hB2⟩
  have HB2 := Lib.hid (bt hB1 hB2)
  have c6 := bblk hB2 b6
  have c7 := bblk hB2 b7
  have c10 := bblk hB2 b10
  clear hB1 hB2 b6 b7 b10
  obtain ⟨bg, hbg⟩ : ∃ bg, W.heap.size = bg := ⟨_, rfl⟩
  obtain ⟨bx, hbx⟩ : ∃ bx, bg + 1 = bx := ⟨_, rfl⟩
  obtain ⟨br, hbr⟩ : ∃ br, bx + 1 = br := ⟨_, rfl⟩
  rw [hbg] at c6 c7 c10
  rw [hbx] at c7 c10
  rw [hbr] at c10
  simp only [hbg, hbx, hbr]
  have HBX : Hid (W.heap.size = bg ∧ bg + 1 = bx ∧ bx + 1 = br) := Lib.hid ⟨hbg, hbx, hbr⟩
  have hne : bx ≠ br := by omega
  have hne' : br ≠ bx := by omega
  have HBR : Hid (W.heap.size ≤ br) := Lib.hid (by omega)
  clear hbg hbx hbr
  have q0 := cl_of c7 0
  have q1 := cl_of c7 1
  have q2 := cl_of c7 2
  have q3 := cl_of c7 3
  have q4 := cl_of c7 4
  have q5 := cl_of c7 5
  have q6 := cl_of c7 6
  have q7 := cl_of c7 7
  have r0 := cl_of c10 0
  have r1 := cl_of c10 1
  have r2 := cl_of c10 2
  have r3 := cl_of c10 3
  have r4 := cl_of c10 4
  have r5 := cl_of c10 5
  have r6 := cl_of c10 6
  have r7 := cl_of c10 7
  have fz2 := fz_of c10
  clear c6 c7 c10
  go_wp2_with fail
  refine bodyPost_ret (v := .tuple #[.agg (ic Ino.zero), .slice none 0 0, .int .i64 2]) (by simp [results, Tryz.results66, go_sem, hne, hne', ic, Ino.zero, r0, r1, r2, r3, r4, r5, r6, r7]) rfl ?_
  refine ⟨rfl, ?_⟩
  repeat (refine Below.setCell ?_ HBR.out _)
  exact HB2.out
set_option maxRecDepth 100000 in
set_option maxHeartbeats 16000000 in
theorem r9cut_yes (h : RtS W rb sb N M Z) (hM : Mo M) (hN : N ≤ 1000000) (hg : GeoN i b j N) (hm : MayB i b j x 0) (hx : x.Wf) (hb : x.n ≠ 0 → (bsn : Int) = fr i b j 5 + x.n - 1) (q : Nat) (hq : q ≤ 36) (A : Ino × List Int × Int × Wl) (hA : A = @ite _ (cutT x M bsn q ∧ ¬ fits bsn M) (Classical.propDecidable _) (Ino.zero, [], 4, M) (x.cut q, cutF x M bsn q, 0, cutM x M bsn q)) :
    Calls Tryz.prog 66 #[.pointer (some ⟨rb, 0, none⟩), gv i b j, .agg (ic x), .int .i64 q] W fun e W' => CutR W rb sb N Z A e W' := by
  have e1 : decide ((q : Int) < 0) = false := decide_eq_false (by omega)
  have e2 : decide ((q : Int) > 36) = false := decide_eq_false (by omega)
  have HMY : Hid (∀ w', Calls Tryz.prog 92 #[gv i b j, .agg (ic x), .int .u16 0] w' fun e w2 => e = .returned (.bool true) ∧ Below w'.heap.size w' w2) := Lib.hid (fun w' => r9may_any hx (Int.le_refl 0) (by decide) true (⟨fun _ => hm, fun _ => rfl⟩) w')
  have htd := fun (W2 : World) (hB : Below W.heap.size W W2) => r9told_any (h.of hB) hM.len hN hg hx hm.n hM.sz hb
  have hlen := toldL_length x hM.sz bsn
  have htl := fun (W2 : World) (hB : Below W.heap.size W W2) (l : Value) (hv : SlI .u16 W2 l (cutL (toldL x M bsn) (q - 4))) (hn1 : 1 ≤ x.n) (z : Int) (hzz : (if (pget bsn M).isSome = true ∨ M.length < 37 then (0 : Int) else 4) = z) =>
    r9tell_any (x := x.cutd q) (h.of hB) hM.len hN hg (by have := Ino.cut_wf hx q; exact ⟨this.k, this.l, this.s, this.d0, this.d1, this.d2, this.d3, hx.n⟩) hm.n hn1 (hb (by show x.n ≠ 0; omega)) hv (by rw [cutL_length, hlen]; decide) z hzz
  have HXN := Lib.hid hx.n
  have HDS : Hid (∀ k, k < 4 → x.ds4.getD k 0 = x.d k) := Lib.hid (fun k hk => by
    have : k = 0 ∨ k = 1 ∨ k = 2 ∨ k = 3 := by omega
    rcases this with rfl | rfl | rfl | rfl <;> rfl)
  have HH := Lib.hid h
  have HTD := Lib.hid htd
  have HTL := Lib.hid htl
  have HA := Lib.hid hA
  have HLEN := Lib.hid hlen
  obtain ⟨L, hLL⟩ : ∃ L, toldL x M bsn = L := ⟨_, rfl⟩
  have HLL := Lib.hid hLL
  clear htd htl h hM hN hg hx hm hb hA hlen hLL
  unfold gv ic at *
  go_enter Tryz.func66, Tryz.ntmps66
  go_wp2_with fail
  obtain ⟨W1, hW1⟩ : ∃ W1, ((W.alloc (.cells #[.int .i64 i, .int .i64 b, .int .i64 j] 56)).alloc (.cells #[.int .u8 x.k, .int .u16 x.l, .int .u32 x.s, .int .u16 x.d0, .int .u16 x.d1, .int .u16 x.d2, .int .u16 x.d3, .int .u16 x.n] 61)).alloc (.cells #[.int .u8 0, .int .u16 0, .int .u32 0, .int .u16 0, .int .u16 0, .int .u16 0, .int .u16 0, .int .u16 0] 61) = W1 := ⟨_, rfl⟩
  have b6 : W1.heap[W.heap.size]? = some (.cells #[.int .i64 i, .int .i64 b, .int .i64 j] 56 (0, 0)) := by
    rw [← hW1, hp_old _ _ (by simp; try omega), hp_old _ _ (by simp), hp_new _ _ rfl]
  have b7 : W1.heap[W.heap.size + 1]? = some (.cells #[.int .u8 x.k, .int .u16 x.l, .int .u32 x.s, .int .u16 x.d0, .int .u16 x.d1, .int .u16 x.d2, .int .u16 x.d3, .int .u16 x.n] 61 (0, 0)) := by
    rw [← hW1, hp_old _ _ (by simp), hp_new _ _ (by simp)]
  have b10 : W1.heap[W.heap.size + 1 + 1]? = some (.cells #[.int .u8 0, .int .u16 0, .int .u32 0, .int .u16 0, .int .u16 0, .int .u16 0, .int .u16 0, .int .u16 0] 61 (0, 0)) := by
    rw [← hW1, hp_new _ _ (by simp)]
  have hB1 : Below W.heap.size W W1 := by rw [← hW1]; exact bal (bal (bnew _ _) _) _
  simp only [hW1]
  clear hW1
  refine (HMY.out _).mono ?_
  rintro e w2 ⟨rfl, hB2⟩
  have HB2 := Lib.hid (bt hB1 hB2)
  have c6 := bblk hB2 b6
  have c7 := bblk hB2 b7
  have c10 := bblk hB2 b10
  clear hB1 hB2 b6 b7 b10
  obtain ⟨bg, hbg⟩ : ∃ bg, W.heap.size = bg := ⟨_, rfl⟩
  obtain ⟨bx, hbx⟩ : ∃ bx, bg + 1 = bx := ⟨_, rfl⟩
  obtain ⟨br, hbr⟩ : ∃ br, bx + 1 = br := ⟨_, rfl⟩
  rw [hbg] at c6 c7 c10
  rw [hbx] at c7 c10
  rw [hbr] at c10
  simp only [hbg, hbx, hbr]
  have HBX : Hid (W.heap.size = bg ∧ bg + 1 = bx ∧ bx + 1 = br) := Lib.hid ⟨hbg, hbx, hbr⟩
  have hne : bx ≠ br := by omega
  have hne' : br ≠ bx := by omega
  have HBR : Hid (W.heap.size ≤ br) := Lib.hid (by omega)
  clear hbg hbx hbr
  have C6 := Lib.hid c6
  have C7 := Lib.hid c7
  have C10 := Lib.hid c10
  have g0 := cl_of c6 0
  have g1 := cl_of c6 1
  have g2 := cl_of c6 2
  have q0 := cl_of c7 0
  have q1 := cl_of c7 1
  have q2 := cl_of c7 2
  have q3 := cl_of c7 3
  have q4 := cl_of c7 4
  have q5 := cl_of c7 5
  have q6 := cl_of c7 6
  have q7 := cl_of c7 7
  clear c6 c7 c10 HMY
  go_wp2_with fail
  refine (HTD.out _ HB2.out).mono ?_
  rintro e w4 ⟨lv, rfl, hrow, hB4⟩
  have HB4 := Lib.hid (bt HB2.out hB4)
  have c6 := bblk hB4 C6.out
  have c7 := bblk hB4 C7.out
  have c10 := bblk hB4 C10.out
  have hs10 := blk_lt C10.out
  clear hB4 g0 g1 g2 q0 q1 q2 q3 q4 q5 q6 q7 C6 C7 C10
  rw [HLL.out] at hrow
  have hlen : L.length = 32 := by rw [← HLL.out]; exact HLEN.out
  obtain ⟨g, cap, cur, rfl, hg0, hgb, hgc⟩ : ∃ g cap cur, lv = .slice (some ⟨g, 0, none⟩) 32 cap ∧ w2.heap.size ≤ g ∧ w4.heap[g]? = some (.cells cur 57 (0, 0)) ∧ ∀ k, k < 32 → cur[k]? = some (.int .u16 (L.getD k 0)) := by
    have hro := hrow
    rcases hrow.2 with ⟨rfl, h0⟩ | ⟨g, c, cur, rfl, h0, hh, hr⟩
    · omega
    · refine ⟨_, _, _, rfl, ?_, hh, fun k hk => ?_⟩
      · exact h0
      · have hc := ownsRow_cell (ownsRow_base hro) rfl (u16s_get L (k := k) (by rw [hlen]; exact hk))
        rw [cl_of hh] at hc
        simpa using hc
  have q3 := cl_of c7 3
  have q4 := cl_of c7 4
  have q5 := cl_of c7 5
  have q6 := cl_of c7 6
  have hmax : (if ((q : Int) - 4) < 0 then (0 : Int) else (q : Int) - 4) = ((q - 4 : Nat) : Int) := by split <;> omega
  have hmax2 : (if (0 : Int) < (q : Int) - 4 then (q : Int) - 4 else 0) = ((q - 4 : Nat) : Int) := by split <;> omega
  have hmax3 : max ((q : Int) - 4) 0 = ((q - 4 : Nat) : Int) := by omega
  have hw4 : IntKind.i64.wrap ((q : Int) - 4) = (q : Int) - 4 := i64_sm (by omega) (by omega)
  go_wp2_with fail
  obtain ⟨W5, hW5⟩ : ∃ W5, w4.alloc (.cells #[.int .u16 x.d0, .int .u16 x.d1, .int .u16 x.d2, .int .u16 x.d3] 59) = W5 := ⟨_, rfl⟩
  have hB5 : Below w4.heap.size w4 W5 := by rw [← hW5]; exact bnew _ _
  have hd5 : W5.heap[w4.heap.size]? = some (.cells #[.int .u16 x.d0, .int .u16 x.d1, .int .u16 x.d2, .int .u16 x.d3] 59 (0, 0)) := by rw [← hW5]; exact hp_new _ _ rfl
  have c6 := bblk hB5 c6
  have c7 := bblk hB5 c7
  have c10 := bblk hB5 c10
  have cg := bblk hB5 hgb
  have hB5' := bt HB4.out hB5
  have hsz5 : W5.heap.size = w4.heap.size + 1 := by rw [← hW5]; simp
  have hg4 := blk_lt hgb
  have hbxo := HBX.out
  have hw24 := HB4.out.size
  have hw2s := HB2.out.size
  obtain ⟨bd, hbd⟩ : ∃ bd, w4.heap.size = bd := ⟨_, rfl⟩
  obtain ⟨n5, hn5⟩ : ∃ n5, W5.heap.size = n5 := ⟨_, rfl⟩
  rw [hbd] at hd5
  have HO : Hid ((W.heap.size ≤ bg ∧ bg < bd) ∧ (W.heap.size ≤ bx ∧ bx < bd) ∧ (W.heap.size ≤ br ∧ br < bd) ∧ (W.heap.size ≤ g ∧ g < bd) ∧ (W.heap.size ≤ bd ∧ bd < n5) ∧ W.heap.size ≤ n5 ∧ bg ≠ bx ∧ bx ≠ br ∧ bg ≠ br ∧ g ≠ bg ∧ g ≠ bx ∧ g ≠ br) := Lib.hid (by omega)
  have HN5B : Hid (n5 = W5.heap.size) := Lib.hid hn5.symm
  simp only [hW5, hbd]
  have hCI0 : CI W n5 bd W5 59 (zK x.ds4 q q) (nz ((x.ds4.drop q).take (q - q))) (.slice none 0 0) W5 := by
    rw [zK_self, Nat.sub_self, List.take_zero]
    refine ⟨⟨rfl, .inl ⟨rfl, rfl⟩⟩, ⟨_, hd5, fun k hk => ?_⟩, hB5', fun _ _ _ => rfl, ⟨HO.out.2.2.2.2.1.1, HO.out.2.2.2.2.1.2, by omega⟩⟩
    have hk4 : k < 4 := hk
    rw [HDS.out k hk4]
    exact ino_d hk4
  have C6 := Lib.hid c6
  have C7 := Lib.hid c7
  have C10 := Lib.hid c10
  have CG := Lib.hid cg
  have HGC := Lib.hid hgc
  have HC0 := Lib.hid hCI0
  have HLE := Lib.hid hlen
  clear hW5 hbd hn5 hB5 hd5 c6 c7 c10 cg hgc hCI0 hB5' hsz5 hg4 hbxo hw24 hw2s hs10 hg0 hgb hrow hlen q3 q4 q5 q6 HB2 HB4 HTD HBX HBR hne hne'
  obtain ⟨i0, hi, hz0, hz1, hz2⟩ := infoU16x
  go_loopw [13, 15] (fun v13 v15 wr => ∃ k : Nat, q ≤ k ∧ (k ≤ 4 ∨ k = q) ∧ v15 = .int .i64 k ∧ CI W n5 bd W5 59 (zK x.ds4 q k) (nz ((x.ds4.drop q).take (k - q))) v13 wr) (fun _ v15 _ => 4 - (intOf v15).toNat)
  case atStart => exact ⟨q, Nat.le_refl _, .inr rfl, rfl, HC0.out⟩
  case round =>
    obtain ⟨k, hqk, hk4, rfl, hC⟩ := hrel
    by_cases hlt : k < 4
    · have d2 : decide ((k : Int) < 4) = true := decide_eq_true (by omega)
      have hzl : (zK x.ds4 q k).length = 4 := zK_length hqk (by show k ≤ 4; omega)
      have hck := hC.cell (k := k) (by rw [hzl]; exact hlt)
      rw [zK_get hqk (by show k < 4; exact hlt)] at hck
      have hfk := hC.froz k
      have hst := nz_step (l := x.ds4) hqk (by show k < 4; exact hlt)
      have HSET := Lib.hid (zK_set (l := x.ds4) hqk (by show k < 4; exact hlt))
      obtain ⟨fs, hfs⟩ : ∃ fs, nz ((x.ds4.drop q).take (k - q)) = fs := ⟨_, rfl⟩
      have hfl : fs.length ≤ 4 := by
        rw [← hfs, nz]
        refine Nat.le_trans (List.length_filter_le _ _) ?_
        rw [List.length_take, List.length_drop]
        show min _ (4 - q) ≤ 4
        omega
      rw [hfs] at hst hC
      generalize x.ds4.getD k 0 = V at *
      obtain ⟨zs, hzs⟩ : ∃ zs, zK x.ds4 q k = zs := ⟨_, rfl⟩
      rw [hzs] at hC HSET hzl
      have HZL := Lib.hid hzl
      have HST := Lib.hid hst
      clear hzl hst hfs hzs
      by_cases hV : V = 0
      · have e3 : (V != 0) = false := by simpa using hV
        have HV := Lib.hid hV
        have HC := Lib.hid hC
        clear hV hC
        go_wp2_with fail
        go_roundw
        case rel => exact ⟨k + 1, by omega, .inl (by omega), by go_num, by rw [HST.out, if_neg (fun h => h HV.out), List.append_nil, ← HSET.out]; exact HC.out.set (by rw [HZL.out]; exact hlt)⟩
        case measure => simp [intOf]; omega
      · have e3 : (V != 0) = true := by simpa using hV
        have HV := Lib.hid hV
        have HRW := Lib.hid hC.row
        have HFL := Lib.hid hfl
        have HN5 := Lib.hid hC.d5.2.2
        have HC := Lib.hid hC
        clear hV hC hfl
        go_wp2_with (at_builtin; refine wpList_append_own _ rfl _ _ 68 rfl n5 57 i0 (.int .u16 0) 1 2 Tryz.underlying68 hi hz0 hz1 hz2 rfl (by decide) u13 fs.length (u16s fs) rfl ?_ ⟨wr.heap.size, 0, none⟩ 1 1 [.int .u16 V] rfl rfl ?_ ?_ ?_ ?_ ?_ ?_)
        · exact HRW.out.alloc _
        · intro j u hj
          rw [Addr.add_lit, Nat.zero_add, cl_of (hp_new wr _ rfl)]
          simpa using hj
        · exact oneU16 _
        · have := HFL.out
          simp only [maxLen]
          omega
        · have := HFL.out
          omega
        · have := HN5.out
          simp
          omega
        intro v' w' hrow hgr _
        have hC2 := HC.out.app hrow hgr
        have hck2 := hC2.cell (k := k) (by rw [HZL.out]; exact hlt)
        have hfk2 := hC2.froz k
        have HC2 := Lib.hid hC2
        clear hC2 hrow hgr hck hfk HRW
        go_wp2_with fail
        go_roundw
        case rel => exact ⟨k + 1, by omega, .inl (by omega), by go_num, by rw [HST.out, if_pos HV.out, ← HSET.out]; exact HC2.out.set (by rw [HZL.out]; exact hlt)⟩
        case measure => simp [intOf]; omega
    · have d2 : decide ((k : Int) < 4) = false := decide_eq_false (by omega)
      rw [zK_end (l := x.ds4) (by show 4 ≤ k; omega) (by show k ≤ 4 ∨ k = q; exact hk4), nz_end (l := x.ds4) (by show 4 ≤ k; omega)] at hC
      obtain ⟨f1, hf1⟩ : ∃ f1, nz (x.ds4.drop q) = f1 := ⟨_, rfl⟩
      have hl1 : f1.length ≤ 4 := by
        rw [← hf1, nz]
        refine Nat.le_trans (List.length_filter_le _ _) ?_
        rw [List.length_drop]
        show 4 - q ≤ 4
        omega
      rw [hf1] at hC
      have HF1 := Lib.hid hf1
      have HL1 := Lib.hid hl1
      obtain ⟨ao, cp, rfl⟩ := hC.slice
      have hdd : ∀ k, k < 4 → wr.cell? ⟨bd, k, none⟩ = some (.int .u16 ((cutL x.ds4 q).getD k 0)) := fun k hk => hC.cell (by rw [cutL_length]; exact hk)
      have d0 : wr.cell? ⟨bd, 0, none⟩ = some (.int .u16 (x.cutd q).d0) := by rw [hdd 0 (by decide), cutL_get]; rfl
      have d1 : wr.cell? ⟨bd, 1, none⟩ = some (.int .u16 (x.cutd q).d1) := by rw [hdd 1 (by decide), cutL_get]; rfl
      have dd2 : wr.cell? ⟨bd, 2, none⟩ = some (.int .u16 (x.cutd q).d2) := by rw [hdd 2 (by decide), cutL_get]; rfl
      have d3 : wr.cell? ⟨bd, 3, none⟩ = some (.int .u16 (x.cutd q).d3) := by rw [hdd 3 (by decide), cutL_get]; rfl
      have c7 := (hC.old bx (by have := HO.out; omega) (by have := HO.out; omega)).trans C7.out
      have fx := fz_of c7
      obtain ⟨xd, hxd⟩ : ∃ xd, x.cutd q = xd := ⟨_, rfl⟩
      rw [hxd] at d0 d1 dd2 d3
      have hxn : xd.n = x.n ∧ xd.k = x.k ∧ xd.l = x.l ∧ xd.s = x.s := by rw [← hxd]; exact ⟨rfl, rfl, rfl, rfl⟩
      have HXD := Lib.hid hxd
      have HXE := Lib.hid hxn
      have q0 := cl_of c7 0
      have q1 := cl_of c7 1
      have q2 := cl_of c7 2
      have q3 := cl_of c7 3
      have q4 := cl_of c7 4
      have q5 := cl_of c7 5
      have q6 := cl_of c7 6
      have q7 := cl_of c7 7
      have hnd : bx ≠ bd := by have := HO.out; omega
      have hnd' : bd ≠ bx := by have := HO.out; omega
      have HC := Lib.hid hC
      have C7w := Lib.hid c7
      clear hC hdd c7 hf1 hl1 hxd hxn hk4 hqk hlt
      go_wp2_with fail
      obtain ⟨W6, hW6⟩ : ∃ W6, (((wr.setCell ⟨bx, 3, none⟩ (.int .u16 xd.d0)).setCell ⟨bx, 4, none⟩ (.int .u16 xd.d1)).setCell ⟨bx, 5, none⟩ (.int .u16 xd.d2)).setCell ⟨bx, 6, none⟩ (.int .u16 xd.d3) = W6 := ⟨_, rfl⟩
      have hx6 : W6.heap[bx]? = some (.cells (ic xd) 61 (0, 0)) := by
        rw [← hW6, blk_here (blk_here (blk_here (blk_here C7w.out 3 _) 4 _) 5 _) 6 _]
        obtain ⟨h1, h2, h3, h4⟩ := HXE.out
        simp [ic, h1, h2, h3, h4]
      have hk6 : ∀ k, k ≠ bx → W6.heap[k]? = wr.heap[k]? := fun k hk => by
        rw [← hW6]
        exact (Below.heap_setCell _ _ _ k hk).trans ((Below.heap_setCell _ _ _ k hk).trans ((Below.heap_setCell _ _ _ k hk).trans (Below.heap_setCell _ _ _ k hk)))
      have hB6 : Below W.heap.size W W6 := by
        rw [← hW6]
        have hl := HO.out.2.1.1
        exact (((HC.out.below.setCell (p := ⟨bx, 3, none⟩) hl _).setCell (p := ⟨bx, 4, none⟩) hl _).setCell (p := ⟨bx, 5, none⟩) hl _).setCell (p := ⟨bx, 6, none⟩) hl _
      have hs6 : W6.heap.size = wr.heap.size := by rw [← hW6]; simp [World.setCell]
      simp only [hW6]
      have hgw := (hk6 g (by have := HO.out; omega)).trans ((HC.out.old g (by have := HO.out; omega) (by have := HO.out; omega)).trans CG.out)
      have hC0 : CI W n5 g W6 57 (zK L (q - 4) (q - 4)) (f1 ++ nz ((L.drop (q - 4)).take (q - 4 - (q - 4)))) (.slice ao f1.length cp) W6 := by
        rw [zK_self, Nat.sub_self, List.take_zero, show nz [] = [] from rfl, List.append_nil]
        exact HC.out.next ⟨by have := HO.out; omega, by have := HO.out; omega⟩ hB6 hs6 (fun k hk => hk6 k (by have := HO.out; omega)) ⟨_, hgw, fun k hk => HGC.out k (by rw [HLE.out] at hk; exact hk)⟩
      have c6 := (hk6 bg (by have := HO.out; omega)).trans ((HC.out.old bg (by have := HO.out; omega) (by have := HO.out; omega)).trans C6.out)
      have c10 := (hk6 br (by have := HO.out; omega)).trans ((HC.out.old br (by have := HO.out; omega) (by have := HO.out; omega)).trans C10.out)
      have HC6 := Lib.hid c6
      have HC7 := Lib.hid hx6
      have HC10 := Lib.hid c10
      have HCC := Lib.hid hC0
      obtain ⟨qz, hqz⟩ : ∃ qz, q - 4 = qz := ⟨_, rfl⟩
      rw [hqz] at HCC
      have HQ2 := Lib.hid hqz
      try rw [hqz]
      clear hW6 hx6 hk6 hB6 hs6 hgw hC0 c6 c10 d0 d1 dd2 d3 fx q0 q1 q2 q3 q4 q5 q6 q7 HC C6 C7 C10 CG HGC C7w HDS d2
      try rw [hqz] at hmax hmax2 hmax3
      clear hqz HC0
      go_loopw [13, 17] (fun v13 v17 WQ => ∃ k : Nat, qz ≤ k ∧ k ≤ 32 ∧ v17 = .int .i64 k ∧ CI W n5 g W6 57 (zK L qz k) (f1 ++ nz ((L.drop qz).take (k - qz))) v13 WQ) (fun _ v17 _ => 32 - (intOf v17).toNat)
      case atStart => exact ⟨qz, Nat.le_refl _, by have := HQ2.out; omega, rfl, HCC.out⟩
      case round =>
        obtain ⟨k, hqk, hk32, rfl, hC⟩ := hrel
        by_cases hlt : k < 32
        · have d2 : decide ((k : Int) < 32) = true := decide_eq_true (by omega)
          have hkl : k < L.length := by rw [HLE.out]; exact hlt
          have hzl : (zK L qz k).length = 32 := by rw [zK_length hqk (by omega), HLE.out]
          have hck := hC.cell (k := k) (by rw [hzl]; exact hlt)
          rw [zK_get hqk hkl] at hck
          have hfk := hC.froz k
          have hst := nz_step (l := L) hqk hkl
          have HSET := Lib.hid (zK_set (l := L) hqk hkl)
          obtain ⟨fs, hfs⟩ : ∃ fs, f1 ++ nz ((L.drop qz).take (k - qz)) = fs := ⟨_, rfl⟩
          have hfl : fs.length ≤ 36 := by
            rw [← hfs, List.length_append, nz]
            have := List.length_filter_le (fun x : Int => x != 0) ((L.drop qz).take (k - qz))
            rw [List.length_take, List.length_drop, HLE.out] at this
            have h2 := HL1.out
            first | omega | (refine Nat.le_trans (Nat.add_le_add h2 (Nat.le_trans (List.length_filter_le _ _) (Nat.le_refl _))) ?_; rw [List.length_take, List.length_drop, HLE.out]; omega)
          have hst2 : f1 ++ nz ((L.drop qz).take (k + 1 - qz)) = fs ++ (if L.getD k 0 ≠ 0 then [L.getD k 0] else []) := by rw [hst, ← List.append_assoc, hfs]
          rw [hfs] at hC
          clear hst
          generalize L.getD k 0 = V at *
          obtain ⟨zs, hzs⟩ : ∃ zs, zK L qz k = zs := ⟨_, rfl⟩
          rw [hzs] at hC HSET hzl
          have HZL := Lib.hid hzl
          have HST := Lib.hid hst2
          clear hzl hst2 hfs hzs hkl
          by_cases hV : V = 0
          · have e3 : (V != 0) = false := by simpa using hV
            have HV := Lib.hid hV
            have HC := Lib.hid hC
            clear hV hC
            go_wp2_with fail
            go_roundw
            case rel => exact ⟨k + 1, by omega, by omega, by go_num, by rw [HST.out, if_neg (fun h => h HV.out), List.append_nil, ← HSET.out]; exact HC.out.set (by rw [HZL.out]; exact hlt)⟩
            case measure => simp [intOf]; omega
          · have e3 : (V != 0) = true := by simpa using hV
            have HV := Lib.hid hV
            have HRW := Lib.hid hC.row
            have HFL := Lib.hid hfl
            have HN5 := Lib.hid hC.d5.2.2
            have HC := Lib.hid hC
            clear hV hC hfl
            go_wp2_with (at_builtin; refine wpList_append_own _ rfl _ _ 68 rfl n5 57 i0 (.int .u16 0) 1 2 Tryz.underlying68 hi hz0 hz1 hz2 rfl (by decide) u13 fs.length (u16s fs) rfl ?_ ⟨wr.heap.size, 0, none⟩ 1 1 [.int .u16 V] rfl rfl ?_ ?_ ?_ ?_ ?_ ?_)
            · exact HRW.out.alloc _
            · intro j u hj
              rw [Addr.add_lit, Nat.zero_add, cl_of (hp_new wr _ rfl)]
              simpa using hj
            · exact oneU16 _
            · have := HFL.out
              simp only [maxLen]
              omega
            · have := HFL.out
              omega
            · have := HN5.out
              simp
              omega
            intro v' w' hrow hgr _
            have hC2 := HC.out.app hrow hgr
            have hck2 := hC2.cell (k := k) (by rw [HZL.out]; exact hlt)
            have hfk2 := hC2.froz k
            have HC2 := Lib.hid hC2
            clear hC2 hrow hgr hck hfk HRW
            go_wp2_with fail
            go_roundw
            case rel => exact ⟨k + 1, by omega, by omega, by go_num, by rw [HST.out, if_pos HV.out, ← HSET.out]; exact HC2.out.set (by rw [HZL.out]; exact hlt)⟩
            case measure => simp [intOf]; omega
        · have d2 : decide ((k : Int) < 32) = false := decide_eq_false (by omega)
          rw [zK_end (l := L) (by rw [HLE.out]; omega) (.inl (by rw [HLE.out]; omega)), nz_end (l := L) (by rw [HLE.out]; omega)] at hC
          obtain ⟨f2, hf2⟩ : ∃ f2, nz (L.drop qz) = f2 := ⟨_, rfl⟩
          rw [hf2] at hC
          have HF2 := Lib.hid hf2
          have hl2 : f2.length ≤ 32 := by
            rw [← hf2, nz]
            refine Nat.le_trans (List.length_filter_le _ _) ?_
            rw [List.length_drop, HLE.out]
            omega
          have hfn : x.n = 0 → f2 = [] := fun h0 => by rw [← hf2, ← HLL.out, toldL, if_pos h0, List.drop_replicate, nz_rep]
          have hcf : cutF x M bsn q = f1 ++ f2 ++ (if x.n ≠ 0 ∧ q ≤ 4 then [x.n] else []) := by rw [cutF, HF1.out, HLL.out, HQ2.out, hf2]
          have hcm : cutM x M bsn q = if x.n ≠ 0 ∧ q ≤ 4 then M else if f2 = [] then M else pins bsn (tellB (cutL L qz)) M := by rw [cutM, HLL.out, HQ2.out, hf2]
          have hct : cutT x M bsn q ↔ 4 < q ∧ x.n ≠ 0 ∧ f2 ≠ [] := by unfold cutT; rw [HLL.out, HQ2.out, hf2]
          obtain ⟨n2, hn2⟩ : ∃ n2, (f1 ++ f2).length = n2 := ⟨_, rfl⟩
          have hn2' : n2 = f1.length + f2.length := by rw [← hn2, List.length_append]
          obtain ⟨ao2, cp2, rfl⟩ := hC.slice
          rw [hn2]
          have cx := (hC.old bx (by have := HO.out; omega) (by have := HO.out; omega)).trans HC7.out
          have c6 := (hC.old bg (by have := HO.out; omega) (by have := HO.out; omega)).trans HC6.out
          have c10 := (hC.old br (by have := HO.out; omega) (by have := HO.out; omega)).trans HC10.out
          have HC := Lib.hid hC
          have HCX := Lib.hid cx
          have HCG6 := Lib.hid c6
          have HC10b := Lib.hid c10
          have HFN := Lib.hid hfn
          have HCF := Lib.hid hcf
          have HCM := Lib.hid hcm
          have HCT := Lib.hid hct
          have HN2 := Lib.hid hn2
          have HN2' := Lib.hid hn2'
          have hn36 : n2 ≤ 36 := by have := HL1.out; omega
          have hxn := HXE.out.1
          have q7 : wr.cell? ⟨bx, 7, none⟩ = some (.int .u16 x.n) := by rw [cl_of cx 7, ← hxn]; rfl
          have fx := fz_of cx
          clear hC hf2 hfn hcf hcm hct hn2 hn2' cx c6 c10 hqk hk32 hlt hl2 HC6 HC7 HC10 HCC hxn
          by_cases hn0 : x.n = 0
          · have e5 : (x.n != 0) = false := by simpa using hn0
            have hf20 := HFN.out hn0
            have hcut : x.cut q = xd := by unfold Ino.cut; rw [if_neg (fun h => h.1 hn0), HXD.out, ← HXE.out.1]
            have e7 : decide ((n2 : Int) > (f1.length : Int)) = false := decide_eq_false (by have := HN2'.out; rw [hf20, List.length_nil] at this; omega)
            have e7c : ¬ (f1.length < n2) := by have := HN2'.out; rw [hf20, List.length_nil] at this; omega
            have e7b : decide (f1.length < n2) = false := decide_eq_false e7c
            have hA : A = (x.cut q, f1 ++ f2, 0, M) := by
              rw [HA.out, if_neg (fun h => (HCT.out.1 h.1).2.1 hn0), HCF.out, HCM.out, if_neg (fun h => h.1 hn0), if_neg (fun h => h.1 hn0), if_pos hf20, List.append_nil]
            have HAA := Lib.hid hA
            have HCUT := Lib.hid hcut
            clear hA hcut hf20
            try clear hn0
            have cx := HCX.out
            have c10 := HC10b.out
            unfold ic at cx
            have hne : bx ≠ br := by have := HO.out; omega
            have hne' : br ≠ bx := by have := HO.out; omega
            have fz2 := fz_of c10
            clear q7
            have r0 := cl_of c10 0
            have r1 := cl_of c10 1
            have r2 := cl_of c10 2
            have r3 := cl_of c10 3
            have r4 := cl_of c10 4
            have r5 := cl_of c10 5
            have r6 := cl_of c10 6
            have r7 := cl_of c10 7
            have s0 := cl_of cx 0
            have s1 := cl_of cx 1
            have s2 := cl_of cx 2
            have s3 := cl_of cx 3
            have s4 := cl_of cx 4
            have s5 := cl_of cx 5
            have s6 := cl_of cx 6
            have s7 := cl_of cx 7
            have e5b := (show (xd.n != 0) = (x.n != 0) by rw [HXE.out.1]).trans e5
            clear e5
            clear c10 cx
            go_wp2_with fail
            refine bodyPost_ret (v := .tuple #[.agg (ic xd), .slice ao2 n2 cp2, .int .i64 0]) (by simp [results, Tryz.results66, go_sem, hne, hne', ic, s0, s1, s2, s3, s4, s5, s6, s7, r0, r1, r2, r3, r4, r5, r6, r7]) rfl ?_
            rw [HAA.out]
            refine ⟨_, by rw [HCUT.out], ?_, RPost.id HH.out (?_ : Below W.heap.size W (put8 wr br xd))⟩
            · refine ownsRow_weak (rowPut8 (W1 := wr) (c := br) (n5 := n5) ?_ (by have := HO.out; omega) xd) HO.out.2.2.2.2.2.1
              have := HC.out.row
              rw [HN2.out] at this
              show wr.ownsRow n5 57 1 (.slice ao2 n2 cp2) (f1 ++ f2).length (u16s (f1 ++ f2))
              rw [HN2.out]
              exact this
            · exact belowPut8 HC.out.below HO.out.2.2.1.1 xd
          · have e5 : (x.n != 0) = true := by simpa using hn0
            by_cases hq4 : q ≤ 4
            · have e6 : decide ((q : Int) ≤ 4) = true := decide_eq_true (by omega)
              have hA : A = (x.cut q, f1 ++ f2 ++ [x.n], 0, M) := by
                rw [HA.out, if_neg (fun h => by have := (HCT.out.1 h.1).1; omega), HCF.out, HCM.out, if_pos ⟨hn0, hq4⟩, if_pos ⟨hn0, hq4⟩]
              have hcut : x.cut q = { xd with n := 0 } := by unfold Ino.cut; rw [if_pos ⟨hn0, hq4⟩, HXD.out]
              have HAA := Lib.hid hA
              have HCUT := Lib.hid hcut
              clear hA hcut
              obtain ⟨f12, hf12⟩ : ∃ f12, f1 ++ f2 = f12 := ⟨_, rfl⟩
              have hrw := HC.out.row
              rw [hf12] at hrw HAA
              have HRW0 := HC
              have hN2 := HN2.out
              rw [hf12] at hN2
              have HFL : Hid (f12.length ≤ 36) := Lib.hid (by rw [hN2]; exact hn36)
              have HN5 := Lib.hid HC.out.d5.2.2
              have HCf := HC.out
              rw [hf12] at HCf
              have HCf := Lib.hid HCf
              rw [← hN2]
              rw [hN2] at hrw
              have HRW : Hid (wr.ownsRow n5 57 1 (.slice ao2 f12.length cp2) f12.length (u16s f12)) := Lib.hid (by rw [hN2]; exact hrw)
              have HCS : Hid (CI W n5 g W6 57 (cutL L qz) f12 (.slice ao2 f12.length cp2) wr) := HCf
              clear hrw HRW0 HCf hf12 hN2
              go_wp2_with (at_builtin; refine wpList_append_own _ rfl _ _ 68 rfl n5 57 i0 (.int .u16 0) 1 2 Tryz.underlying68 hi hz0 hz1 hz2 rfl (by decide) (.slice ao2 f12.length cp2) f12.length (u16s f12) rfl ?_ ⟨wr.heap.size, 0, none⟩ 1 1 [.int .u16 x.n] rfl rfl ?_ ?_ ?_ ?_ ?_ ?_)
              · exact HRW.out.alloc _
              · intro j u hj
                rw [Addr.add_lit, Nat.zero_add, cl_of (hp_new wr _ rfl)]
                simpa using hj
              · exact oneU16 _
              · have := HFL.out
                simp only [maxLen]
                omega
              · have := HFL.out
                omega
              · have := HN5.out
                simp
                omega
              intro v' w' hrow hgr _
              have hC9 := HCS.out.app hrow hgr
              have cx := (hC9.old bx (by have := HO.out; omega) (by have := HO.out; omega)).trans ((HC.out.old bx (by have := HO.out; omega) (by have := HO.out; omega)).symm.trans HCX.out)
              have c10 := (hC9.old br (by have := HO.out; omega) (by have := HO.out; omega)).trans ((HC.out.old br (by have := HO.out; omega) (by have := HO.out; omega)).symm.trans HC10b.out)
              have q7 := cl_of cx 7
              have fx7 := fz_of cx 7
              obtain ⟨W11, hW11⟩ : ∃ W11, w'.setCell ⟨bx, 7, none⟩ (.int .u16 0) = W11 := ⟨_, rfl⟩
              have hx11 : W11.heap[bx]? = some (.cells (ic { xd with n := 0 }) 61 (0, 0)) := by rw [← hW11, blk_here cx 7]; rfl
              have h10 : W11.heap[br]? = some (.cells (ic Ino.zero) 61 (0, 0)) := by rw [← hW11]; exact (Below.heap_setCell w' ⟨bx, 7, none⟩ _ br (by show br ≠ bx; have := HO.out; omega)).trans c10
              have hB11 : Below W.heap.size W W11 := by rw [← hW11]; exact hC9.below.setCell (p := ⟨bx, 7, none⟩) HO.out.2.1.1 _
              have hrow11 : W11.ownsRow n5 57 1 v' (f12 ++ [x.n]).length (u16s (f12 ++ [x.n])) := by
                rw [← hW11]
                exact ownsRow_blockB hC9.row (fun k e => Below.heap_setCell w' ⟨bx, 7, none⟩ _ k (by have := hC9.nb e; have := HO.out; show k ≠ bx; omega))
              have HB11 := Lib.hid hB11
              have HR11 := Lib.hid hrow11
              obtain ⟨y, hy⟩ : ∃ y : Ino, { xd with n := 0 } = y := ⟨_, rfl⟩
              rw [hy] at hx11 HCUT
              unfold ic at hx11
              unfold ic Ino.zero at h10
              have hne : bx ≠ br := by have := HO.out; omega
              have hne' : br ≠ bx := by have := HO.out; omega
              have fz2 := fz_of h10
              have r0 := cl_of h10 0
              have r1 := cl_of h10 1
              have r2 := cl_of h10 2
              have r3 := cl_of h10 3
              have r4 := cl_of h10 4
              have r5 := cl_of h10 5
              have r6 := cl_of h10 6
              have r7 := cl_of h10 7
              have s0 := cl_of hx11 0
              have s1 := cl_of hx11 1
              have s2 := cl_of hx11 2
              have s3 := cl_of hx11 3
              have s4 := cl_of hx11 4
              have s5 := cl_of hx11 5
              have s6 := cl_of hx11 6
              have s7 := cl_of hx11 7
              have hq7 : w'.cell? ⟨bx, 7, none⟩ = some (.int .u16 xd.n) := q7
              clear c10 cx hx11 h10 hB11 hrow11 hC9 hrow hgr q7 hy
              go_wp2_with fail
              refine bodyPost_ret (v := .tuple #[.agg (ic y), v', .int .i64 0]) (by simp [results, Tryz.results66, go_sem, hne, hne', ic, s0, s1, s2, s3, s4, s5, s6, s7, r0, r1, r2, r3, r4, r5, r6, r7]) rfl ?_
              rw [HAA.out]
              refine ⟨_, by rw [HCUT.out], ?_, RPost.id HH.out (?_ : Below W.heap.size W (put8 W11 br y))⟩
              · exact ownsRow_weak (rowPut8 (W1 := W11) (c := br) (n5 := n5) HR11.out (by have := HO.out; omega) y) HO.out.2.2.2.2.2.1
              · exact belowPut8 HB11.out HO.out.2.2.1.1 y
            · have e6 : decide ((q : Int) ≤ 4) = false := decide_eq_false (by omega)
              have hcut : x.cut q = xd := by unfold Ino.cut; rw [if_neg (fun h => hq4 h.2), HXD.out, ← HXE.out.1]
              by_cases hf20 : f2 = []
              · have e7 : decide ((n2 : Int) > (f1.length : Int)) = false := decide_eq_false (by have := HN2'.out; rw [hf20, List.length_nil] at this; omega)
                have e7c : ¬ (f1.length < n2) := by have := HN2'.out; rw [hf20, List.length_nil] at this; omega
                have e7b : decide (f1.length < n2) = false := decide_eq_false e7c
                have hA : A = (x.cut q, f1 ++ f2, 0, M) := by
                  rw [HA.out, if_neg (fun h => (HCT.out.1 h.1).2.2 hf20), HCF.out, HCM.out, if_neg (fun h => hq4 h.2), if_neg (fun h => hq4 h.2), if_pos hf20, List.append_nil]
                have HAA := Lib.hid hA
                have HCUT := Lib.hid hcut
                clear hA hcut hf20
                try clear hn0
                have cx := HCX.out
                have c10 := HC10b.out
                unfold ic at cx
                have hne : bx ≠ br := by have := HO.out; omega
                have hne' : br ≠ bx := by have := HO.out; omega
                have fz2 := fz_of c10
                clear q7
                have r0 := cl_of c10 0
                have r1 := cl_of c10 1
                have r2 := cl_of c10 2
                have r3 := cl_of c10 3
                have r4 := cl_of c10 4
                have r5 := cl_of c10 5
                have r6 := cl_of c10 6
                have r7 := cl_of c10 7
                have s0 := cl_of cx 0
                have s1 := cl_of cx 1
                have s2 := cl_of cx 2
                have s3 := cl_of cx 3
                have s4 := cl_of cx 4
                have s5 := cl_of cx 5
                have s6 := cl_of cx 6
                have s7 := cl_of cx 7
                have e5b := (show (xd.n != 0) = (x.n != 0) by rw [HXE.out.1]).trans e5
                clear e5
                clear c10 cx
                go_wp2_with fail
                refine bodyPost_ret (v := .tuple #[.agg (ic xd), .slice ao2 n2 cp2, .int .i64 0]) (by simp [results, Tryz.results66, go_sem, hne, hne', ic, s0, s1, s2, s3, s4, s5, s6, s7, r0, r1, r2, r3, r4, r5, r6, r7]) rfl ?_
                rw [HAA.out]
                refine ⟨_, by rw [HCUT.out], ?_, RPost.id HH.out (?_ : Below W.heap.size W (put8 wr br xd))⟩
                · refine ownsRow_weak (rowPut8 (W1 := wr) (c := br) (n5 := n5) ?_ (by have := HO.out; omega) xd) HO.out.2.2.2.2.2.1
                  have := HC.out.row
                  rw [HN2.out] at this
                  show wr.ownsRow n5 57 1 (.slice ao2 n2 cp2) (f1 ++ f2).length (u16s (f1 ++ f2))
                  rw [HN2.out]
                  exact this
                · exact belowPut8 HC.out.below HO.out.2.2.1.1 xd
              · have e7 : decide ((n2 : Int) > (f1.length : Int)) = true := decide_eq_true (by have := HN2'.out; have : f2.length ≠ 0 := (fun h => hf20 (List.eq_nil_of_length_eq_zero h)); omega)
                have e7c : f1.length < n2 := by have := HN2'.out; have : f2.length ≠ 0 := (fun h => hf20 (List.eq_nil_of_length_eq_zero h)); omega
                have e7b : decide (f1.length < n2) = true := decide_eq_true e7c
                have HCUT := Lib.hid hcut
                have HF20 := Lib.hid hf20
                clear hcut hf20
                have hsl : SlI .u16 wr (.slice (some ⟨g, 0, none⟩) 32 cap) (cutL L qz) := by
                  refine ⟨⟨_, cap, by rw [cutL_length, HLE.out], fun _ => ⟨g, 0, rfl, by have := HC.out.d5; have := HO.out; omega, fun k hk => by rw [Nat.zero_add]; exact HC.out.cell hk⟩⟩, cutL_wf (by rw [← HLL.out]; exact toldL_wf x M bsn) _⟩
                have hfz : ∃ z : Int, (if (pget bsn M).isSome = true ∨ M.length < 37 then (0 : Int) else 4) = z := ⟨_, rfl⟩
                obtain ⟨z, hz⟩ := hfz
                have htl := HTL.out wr HC.out.below (.slice (some ⟨g, 0, none⟩) 32 cap) (by rw [HLL.out, HQ2.out]; exact hsl) (by have := HXN.out.1; omega) z hz
                rw [HLL.out, HQ2.out, HXD.out] at htl
                have HZ := Lib.hid hz
                have HT := Lib.hid htl
                have cx := HCX.out
                have c6 := HCG6.out
                unfold ic at cx
                clear q7
                have g0 := cl_of c6 0
                have g1 := cl_of c6 1
                have g2 := cl_of c6 2
                have q0 := cl_of cx 0
                have q1 := cl_of cx 1
                have qq2 := cl_of cx 2
                have q3 := cl_of cx 3
                have q4 := cl_of cx 4
                have q5 := cl_of cx 5
                have q6 := cl_of cx 6
                have q7 := cl_of cx 7
                have e5b : (xd.n != 0) = true := by rw [HXE.out.1]; exact e5
                clear cx c6 hsl htl hz e5
                go_wp2_with fail
                refine HT.out.mono ?_
                rintro e w9 ⟨rfl, hp9⟩
                have h8 := HH.out.of HC.out.below
                have dx := hp9.blk HCX.out (by decide) h8
                have d10 := hp9.blk HC10b.out (by decide) h8
                have hrow := HC.out.row
                rw [HN2.out] at hrow
                have HROW := Lib.hid (hp9.row h8 hrow)
                have HP9 := Lib.hid (hp9.pre HC.out.below)
                have HTY : Hid (TyI w9 br) := Lib.hid ⟨_, d10⟩
                unfold ic at dx
                have hne : bx ≠ br := by have := HO.out; omega
                have hne' : br ≠ bx := by have := HO.out; omega
                have fz2 := fz_of d10
                clear g0 g1 g2 q0 q1 qq2 q3 q4 q5 q6 q7
                have r0 := cl_of d10 0
                have r1 := cl_of d10 1
                have r2 := cl_of d10 2
                have r3 := cl_of d10 3
                have r4 := cl_of d10 4
                have r5 := cl_of d10 5
                have r6 := cl_of d10 6
                have r7 := cl_of d10 7
                have s0 := cl_of dx 0
                have s1 := cl_of dx 1
                have s2 := cl_of dx 2
                have s3 := cl_of dx 3
                have s4 := cl_of dx 4
                have s5 := cl_of dx 5
                have s6 := cl_of dx 6
                have s7 := cl_of dx 7
                clear dx d10 hp9 h8 hrow
                by_cases hfit : (pget bsn M).isSome = true ∨ M.length < 37
                · obtain rfl : z = 0 := by rw [← HZ.out, if_pos hfit]
                  have hA : A = (x.cut q, f1 ++ f2, 0, rput bsn (tellB (cutL L qz)) M 37) := by
                    rw [HA.out, if_neg (fun h => h.2 hfit), HCF.out, HCM.out, if_neg (fun h => hq4 h.2), if_neg (fun h => hq4 h.2), if_neg HF20.out, List.append_nil, rput, if_pos hfit]
                  have HAA := Lib.hid hA
                  clear hA hfit
                  go_wp2_with fail
                  refine bodyPost_ret (v := .tuple #[.agg (ic xd), .slice ao2 n2 cp2, .int .i64 0]) (by simp [results, Tryz.results66, go_sem, hne, hne', ic, s0, s1, s2, s3, s4, s5, s6, s7, r0, r1, r2, r3, r4, r5, r6, r7]) rfl ?_
                  rw [HAA.out]
                  refine ⟨_, by rw [HCUT.out], ?_, HP9.out.put8 HTY.out HO.out.2.2.1.1 xd⟩
                  refine ownsRow_weak (rowPut8 (W1 := w9) (c := br) (n5 := n5) ?_ (by have := HO.out; omega) xd) HO.out.2.2.2.2.2.1
                  show w9.ownsRow n5 57 1 (.slice ao2 n2 cp2) (f1 ++ f2).length (u16s (f1 ++ f2))
                  rw [HN2.out]
                  exact HROW.out
                · obtain rfl : z = 4 := by rw [← HZ.out, if_neg hfit]
                  have hA : A = (Ino.zero, [], 4, rput bsn (tellB (cutL L qz)) M 37) := by
                    rw [HA.out, if_pos ⟨HCT.out.2 ⟨by omega, hn0, HF20.out⟩, hfit⟩, rput, if_neg hfit]
                  have HAA := Lib.hid hA
                  clear hA hfit
                  go_wp2_with fail
                  refine bodyPost_ret (v := .tuple #[.agg (ic Ino.zero), .slice none 0 0, .int .i64 4]) (by simp [results, Tryz.results66, go_sem, hne, hne', ic, Ino.zero, s0, s1, s2, s3, s4, s5, s6, s7, r0, r1, r2, r3, r4, r5, r6, r7]) rfl ?_
                  rw [HAA.out]
                  exact ⟨_, rfl, ⟨rfl, .inl ⟨rfl, rfl⟩⟩, HP9.out.put8 HTY.out HO.out.2.2.1.1 Ino.zero⟩
end
end Go.Proofs.YtjjphcnoegaimaaGreat

namespace Go.Proofs.YtjjphcnoegaimaaGreat
open Go.RowKit Go.Shelf Go.Maps
set_option maxRecDepth 20000
set_option linter.unusedVariables false
set_option linter.unusedSimpArgs false

section
variable {W W1 W' w : World} {rb sb N : Nat} {M M' : Wl} {Z : Nat → Prop} {i b j v : Int} {x : Ino}
theorem r9get_all (h : RtS W rb sb N M Z) (hM : Mo M) (hN : N ≤ 1000000) (hg : GeoN i b j N) (hx : x.Wf) (page : Int) :
    Calls Tryz.prog 62 #[.pointer (some ⟨rb, 0, none⟩), gv i b j, .agg (ic x), .int .i64 page] W fun e W' => e = .returned (.tuple #[.int .u16 (getA i b j x M page).1, .int .i64 (getA i b j x M page).2]) ∧ Below W.heap.size W W' := by
  by_cases hc : MayB i b j x 0 ∧ 0 ≤ page ∧ page < 36
  · obtain ⟨q, rfl⟩ := Int.eq_ofNat_of_zero_le hc.2.1
    have hA : getA i b j x M (q : Int) = (pg x M (bsI i b j x) q, 0) := if_pos hc
    rw [hA]
    exact r9get_yes h hM hN hg hc.1 hx (bsI_eq hg.m hx) q (by omega)
  · have hA : getA i b j x M page = (0, 2) := if_neg hc
    rw [hA]
    exact r9get_no hx page hc
theorem r9set_all (h : RtS W rb sb N M Z) (hM : Mo M) (hN : N ≤ 1000000) (hg : GeoN i b j N) (hx : x.Wf) (h0 : 0 ≤ v) (h1 : v < 65536) (page : Int) (A : Ino × Int × Wl) (hA : setA i b j x M page v = A) :
    Calls Tryz.prog 64 #[.pointer (some ⟨rb, 0, none⟩), gv i b j, .agg (ic x), .int .i64 page, .int .u16 v] W fun e W' => e = .returned (.tuple #[.agg (ic A.1), .int .i64 A.2.1]) ∧ RPost W rb sb N A.2.2 Z W' := by
  subst hA
  by_cases hc : MayB i b j x v ∧ 0 ≤ page ∧ page < 36
  · obtain ⟨q, rfl⟩ := Int.eq_ofNat_of_zero_le hc.2.1
    by_cases h4 : (q : Int) < 4
    · have hA : setA i b j x M (q : Int) v = (x.setd q v, 0, M) := by unfold setA; rw [if_pos hc, if_pos h4]; rfl
      rw [hA]
      refine (r9set_dir hc.1 hx h0 h1 q (by omega)).mono ?_
      rintro e W' ⟨rfl, hB⟩
      exact ⟨rfl, RPost.id h hB⟩
    · by_cases hn : x.n = 0
      · have hA : setA i b j x M (q : Int) v = (Ino.zero, 3, M) := by unfold setA; rw [if_pos hc, if_neg h4, if_pos hn]
        rw [hA]
        refine (r9set_none hc.1 hx hn h0 h1 q (by omega) (by omega)).mono ?_
        rintro e W' ⟨rfl, hB⟩
        exact ⟨rfl, RPost.id h hB⟩
      · have hn1 : 1 ≤ x.n := by have := hx.n.1; omega
        by_cases hf : fits (bsI i b j x) M
        · have hA : setA i b j x M (q : Int) v = (x, 0, setM x M (bsI i b j x) q v) := by unfold setA; rw [if_pos hc, if_neg h4, if_neg hn, if_pos hf]; rfl
          rw [hA]
          have hr : rput (bsI i b j x) (tellB ((toldL x M (bsI i b j x)).set (q - 4) v)) M 37 = setM x M (bsI i b j x) q v := if_pos hf
          have := r9set_ind h hM hN hg hc.1 hx hn1 (bsI_eq hg.m hx hn) h0 h1 q (by omega) (by omega) x 0 (.inl ⟨rfl, rfl, hf⟩)
          rw [hr] at this
          exact this
        · have hA : setA i b j x M (q : Int) v = (Ino.zero, 4, M) := by unfold setA; rw [if_pos hc, if_neg h4, if_neg hn, if_neg hf]
          rw [hA]
          have hr : rput (bsI i b j x) (tellB ((toldL x M (bsI i b j x)).set (q - 4) v)) M 37 = M := if_neg hf
          have := r9set_ind h hM hN hg hc.1 hx hn1 (bsI_eq hg.m hx hn) h0 h1 q (by omega) (by omega) Ino.zero 4 (.inr ⟨rfl, rfl, hf⟩)
          rw [hr] at this
          exact this
  · have hA : setA i b j x M page v = (Ino.zero, 2, M) := if_neg hc
    rw [hA]
    refine (r9set_no hx h0 h1 page hc).mono ?_
    rintro e W' ⟨rfl, hB⟩
    exact ⟨rfl, RPost.id h hB⟩
theorem r9begin_all (h : RtS W rb sb N M Z) (hM : Mo M) (hN : N ≤ 1000000) (hg : GeoN i b j N) (hx : x.Wf) (h0 : 0 ≤ v) (h1 : v < 65536) (A : Ino × Int × Wl) (hA : beginA i b j x M v = A) :
    Calls Tryz.prog 65 #[.pointer (some ⟨rb, 0, none⟩), gv i b j, .agg (ic x), .int .u16 v] W fun e W' => e = .returned (.tuple #[.agg (ic A.1), .int .i64 A.2.1]) ∧ RPost W rb sb N A.2.2 Z W' := by
  subst hA
  by_cases hc : MayB i b j x v ∧ v ≠ 0 ∧ x.n = 0
  · have hv1 : 1 ≤ v := by have := hc.2.1; omega
    have hbs : (bsI i b j (x.setn v) : Int) = fr i b j 5 + v - 1 := bsI_eq (x := x.setn v) hg.m (Ino.setn_wf hx h0 h1) hc.2.1
    by_cases hf : fits (bsI i b j (x.setn v)) M
    · have hA : beginA i b j x M v = (x.setn v, 0, pins (bsI i b j (x.setn v)) (tellB []) M) := by unfold beginA; rw [if_pos hc, if_pos hf]
      rw [hA]
      have hr : rput (bsI i b j (x.setn v)) (tellB []) M 37 = pins (bsI i b j (x.setn v)) (tellB []) M := if_pos hf
      have := r9begin_yes h hM hN hg hc.1 hx hc.2.2 hv1 h1 hbs (x.setn v) 0 (.inl ⟨rfl, rfl, hf⟩)
      rw [hr] at this
      exact this
    · have hA : beginA i b j x M v = (Ino.zero, 4, M) := by unfold beginA; rw [if_pos hc, if_neg hf]
      rw [hA]
      have hr : rput (bsI i b j (x.setn v)) (tellB []) M 37 = M := if_neg hf
      have := r9begin_yes h hM hN hg hc.1 hx hc.2.2 hv1 h1 hbs Ino.zero 4 (.inr ⟨rfl, rfl, hf⟩)
      rw [hr] at this
      exact this
  · have hA : beginA i b j x M v = (Ino.zero, 2, M) := if_neg hc
    rw [hA]
    refine (r9begin_no hx h0 h1 hc).mono ?_
    rintro e W' ⟨rfl, hB⟩
    exact ⟨rfl, RPost.id h hB⟩
theorem r9cut_all (h : RtS W rb sb N M Z) (hM : Mo M) (hN : N ≤ 1000000) (hg : GeoN i b j N) (hx : x.Wf) (page : Int) (A : Ino × List Int × Int × Wl) (hA : cutA i b j x M page = A) :
    Calls Tryz.prog 66 #[.pointer (some ⟨rb, 0, none⟩), gv i b j, .agg (ic x), .int .i64 page] W (CutR W rb sb N Z A) := by
  subst hA
  by_cases hc : MayB i b j x 0 ∧ 0 ≤ page ∧ page ≤ 36
  · obtain ⟨q, rfl⟩ := Int.eq_ofNat_of_zero_le hc.2.1
    exact r9cut_yes h hM hN hg hc.1 hx (bsI_eq hg.m hx) q (by omega) _ (by
      unfold cutA
      rw [if_pos hc]
      by_cases ht : cutT x M (bsI i b j x) q ∧ ¬ fits (bsI i b j x) M
      · exact (if_pos ht).trans (if_pos ht).symm
      · exact (if_neg ht).trans (if_neg ht).symm)
  · have hA : cutA i b j x M page = (Ino.zero, [], 2, M) := if_neg hc
    rw [hA]
    refine (r9cut_no hx page hc).mono ?_
    rintro e W' ⟨rfl, hB⟩
    exact ⟨_, rfl, ⟨rfl, .inl ⟨rfl, rfl⟩⟩, RPost.id h hB⟩
set_option maxHeartbeats 4000000 in
theorem r9all_all (h : RtS W rb sb N M Z) (hM : Mo M) (hN : N ≤ 1000000) (hg : GeoN i b j N) (hx : x.Wf) (A : Ino × List Int × Int × Wl) (hA : cutA i b j x M 0 = A) :
    Calls Tryz.prog 63 #[.pointer (some ⟨rb, 0, none⟩), gv i b j, .agg (ic x)] W fun e W' => ∃ u, e = .returned (.tuple #[u, .int .i64 A.2.2.1]) ∧ W'.ownsRow W.heap.size 57 1 u A.2.1.length (u16s A.2.1) ∧ RPost W rb sb N A.2.2.2 Z W' := by
  have hB1 : Below W.heap.size W ((W.alloc (.cells #[.int .i64 i, .int .i64 b, .int .i64 j] 56)).alloc (.cells (ic x) 61)) := bal (bnew _ _) _
  have hcut := r9cut_all (h.of hB1) hM hN hg hx 0 A hA
  have HB1 := Lib.hid hB1
  have HCU := Lib.hid hcut
  clear h hg hx hM hA hB1 hcut
  unfold gv at HCU ⊢
  obtain ⟨y, F, z, M2⟩ := A
  unfold CutR at HCU
  dsimp only at HCU ⊢
  unfold ic at *
  go_enter Tryz.func63, Tryz.ntmps63
  go_wp2_with fail
  refine HCU.out.mono ?_
  rintro e w2 ⟨u, rfl, hrow, hp⟩
  have HROW := Lib.hid hrow
  have HP := Lib.hid hp
  clear hrow hp
  go_wp2_with fail
  go_ret2
  exact ⟨u, rfl, row_below (ownsRow_weak HROW.out HB1.out.size) (bnew _ _), (HP.out.pre HB1.out).then (bnew _ _)⟩
end
end Go.Proofs.YtjjphcnoegaimaaGreat
