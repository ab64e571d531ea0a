/- lunettelaw09.BmapPlays: the walk. -/
import Derived.Test.YtjjphcnoegaimaaGreatHB
namespace Go.Proofs.YtjjphcnoegaimaaGreat
open Go.RowKit Go.Shelf Go.Maps
set_option maxRecDepth 20000
set_option linter.unusedVariables false
set_option linter.unusedSimpArgs false

set_option maxHeartbeats 16000000 in
theorem bp_big1 {w : World} {i b j : Int} {x : Ino} {v : Value} {ls : List St9} (hl : Sl9 w v ls) (hx : x.Wf) (hm : Mays i b j) (hb : 60 < b) :
    Calls Tryz.prog 4 #[gv i b j, .agg (ic x), v] w fun e w' => e = .returned (.bool true) ∧ Below w.heap.size w w' := by
  have HMAY : Hid (∀ W, Calls Tryz.prog 24 #[.agg #[.int .i64 i, .int .i64 b, .int .i64 j]] W fun e w' => e = .returned (.bool true) ∧ Below W.heap.size W w') := Lib.hid (fun W => geo_may_yes hm W)
  clear hm
  have hlg := fun (W : World) (hB : Below w.heap.size w W) => long9_any (hl.of hB)
  have HLG := Lib.hid hlg
  clear hlg
  unfold gv ic
  go_enter Tryz.func4, Tryz.ntmps4
  go_wp2_with fail
  obtain ⟨W1, hW1⟩ : ∃ W1, (w.alloc (.cells #[.int .i64 i, .int .i64 b, .int .i64 j] 56)).alloc (.cells #[.int .u8 x.k, .int .u16 x.l, .int .u32 x.s, .int .u16 x.d0, .int .u16 x.d1, .int .u16 x.d2, .int .u16 x.d3, .int .u16 x.n] 61) = W1 := ⟨_, rfl⟩
  have cg : W1.heap[w.heap.size]? = some (.cells #[.int .i64 i, .int .i64 b, .int .i64 j] 56 (0, 0)) := by rw [← hW1, hp_old _ _ (by simp), hp_new _ _ rfl]
  have cx : W1.heap[w.heap.size + 1]? = some (.cells #[.int .u8 x.k, .int .u16 x.l, .int .u32 x.s, .int .u16 x.d0, .int .u16 x.d1, .int .u16 x.d2, .int .u16 x.d3, .int .u16 x.n] 61 (0, 0)) := by rw [← hW1, hp_new _ _ (by simp)]
  have hB1 : Below w.heap.size w W1 := by rw [← hW1]; exact bal (bnew _ _) _
  simp only [hW1]
  clear hW1
  refine (HLG.out _ hB1).mono ?_
  rintro e w2 ⟨lb, rfl, hlb, h12⟩
  subst h12
  obtain ⟨bg, hbg⟩ : ∃ bg, w.heap.size = bg := ⟨_, rfl⟩
  obtain ⟨bx, hbx⟩ : ∃ bx, bg + 1 = bx := ⟨_, rfl⟩
  rw [hbg] at cg cx
  rw [hbx] at cx
  simp only [hbg, hbx]
  have HO : Hid (w.heap.size = bg ∧ bg + 1 = bx) := Lib.hid ⟨hbg, hbx⟩
  clear hbg hbx
  have HB := Lib.hid hB1
  have HG := Lib.hid cg
  have HX := Lib.hid cx
  clear hB1
  cases lb
  rotate_left
  · clear cg cx
    go_wp2_with fail
    refine (alive09_any _).mono ?_
    rintro e w3 ⟨rfl, hB3⟩
    have HB3 := Lib.hid (bt HB.out hB3)
    clear hB3
    go_wp2_with fail
    go_ret
    exact ⟨rfl, HB3.out⟩
  have HL80 := Lib.hid (hlb rfl)
  clear hlb
  have g0 := cl_of cg 0
  have g1 := cl_of cg 1
  have g2 := cl_of cg 2
  have q0 := cl_of cx 0
  have q1 := cl_of cx 1
  have q2 := cl_of cx 2
  have q3 := cl_of cx 3
  have q4 := cl_of cx 4
  have q5 := cl_of cx 5
  have q6 := cl_of cx 6
  have q7 := cl_of cx 7
  have lg := blk_lt cg
  have lx := blk_lt cx
  clear cg cx
  have e1 : decide (b > 60) = true := decide_eq_true hb
  clear hb
  go_wp2_with fail
  refine (HMAY.out _).mono ?_
  rintro e w3 ⟨rfl, hB3⟩
  have HB3 := Lib.hid (bt HB.out hB3)
  clear hB3
  go_wp2_with fail
  refine (alive09_any _).mono ?_
  rintro e w4 ⟨rfl, hB4⟩
  have HB4 := Lib.hid (bt HB3.out hB4)
  clear hB4
  go_wp2_with fail
  go_ret
  exact ⟨rfl, HB4.out⟩
set_option maxHeartbeats 16000000 in
theorem bp_big2 {w : World} {i b j : Int} {x : Ino} {v : Value} {ls : List St9} (hl : Sl9 w v ls) (hx : x.Wf) (hm : Mays i b j) (hb : b ≤ 60) (hj : j ≠ 40) :
    Calls Tryz.prog 4 #[gv i b j, .agg (ic x), v] w fun e w' => e = .returned (.bool true) ∧ Below w.heap.size w w' := by
  have HMAY : Hid (∀ W, Calls Tryz.prog 24 #[.agg #[.int .i64 i, .int .i64 b, .int .i64 j]] W fun e w' => e = .returned (.bool true) ∧ Below W.heap.size W w') := Lib.hid (fun W => geo_may_yes hm W)
  clear hm
  have hlg := fun (W : World) (hB : Below w.heap.size w W) => long9_any (hl.of hB)
  have HLG := Lib.hid hlg
  clear hlg
  unfold gv ic
  go_enter Tryz.func4, Tryz.ntmps4
  go_wp2_with fail
  obtain ⟨W1, hW1⟩ : ∃ W1, (w.alloc (.cells #[.int .i64 i, .int .i64 b, .int .i64 j] 56)).alloc (.cells #[.int .u8 x.k, .int .u16 x.l, .int .u32 x.s, .int .u16 x.d0, .int .u16 x.d1, .int .u16 x.d2, .int .u16 x.d3, .int .u16 x.n] 61) = W1 := ⟨_, rfl⟩
  have cg : W1.heap[w.heap.size]? = some (.cells #[.int .i64 i, .int .i64 b, .int .i64 j] 56 (0, 0)) := by rw [← hW1, hp_old _ _ (by simp), hp_new _ _ rfl]
  have cx : W1.heap[w.heap.size + 1]? = some (.cells #[.int .u8 x.k, .int .u16 x.l, .int .u32 x.s, .int .u16 x.d0, .int .u16 x.d1, .int .u16 x.d2, .int .u16 x.d3, .int .u16 x.n] 61 (0, 0)) := by rw [← hW1, hp_new _ _ (by simp)]
  have hB1 : Below w.heap.size w W1 := by rw [← hW1]; exact bal (bnew _ _) _
  simp only [hW1]
  clear hW1
  refine (HLG.out _ hB1).mono ?_
  rintro e w2 ⟨lb, rfl, hlb, h12⟩
  subst h12
  obtain ⟨bg, hbg⟩ : ∃ bg, w.heap.size = bg := ⟨_, rfl⟩
  obtain ⟨bx, hbx⟩ : ∃ bx, bg + 1 = bx := ⟨_, rfl⟩
  rw [hbg] at cg cx
  rw [hbx] at cx
  simp only [hbg, hbx]
  have HO : Hid (w.heap.size = bg ∧ bg + 1 = bx) := Lib.hid ⟨hbg, hbx⟩
  clear hbg hbx
  have HB := Lib.hid hB1
  have HG := Lib.hid cg
  have HX := Lib.hid cx
  clear hB1
  cases lb
  rotate_left
  · clear cg cx
    go_wp2_with fail
    refine (alive09_any _).mono ?_
    rintro e w3 ⟨rfl, hB3⟩
    have HB3 := Lib.hid (bt HB.out hB3)
    clear hB3
    go_wp2_with fail
    go_ret
    exact ⟨rfl, HB3.out⟩
  have HL80 := Lib.hid (hlb rfl)
  clear hlb
  have g0 := cl_of cg 0
  have g1 := cl_of cg 1
  have g2 := cl_of cg 2
  have q0 := cl_of cx 0
  have q1 := cl_of cx 1
  have q2 := cl_of cx 2
  have q3 := cl_of cx 3
  have q4 := cl_of cx 4
  have q5 := cl_of cx 5
  have q6 := cl_of cx 6
  have q7 := cl_of cx 7
  have lg := blk_lt cg
  have lx := blk_lt cx
  clear cg cx
  have e1 : decide (b > 60) = false := decide_eq_false (by omega)
  have e2 : (j != 40) = true := by simpa using hj
  clear hb hj
  go_wp2_with fail
  refine (HMAY.out _).mono ?_
  rintro e w3 ⟨rfl, hB3⟩
  have HB3 := Lib.hid (bt HB.out hB3)
  clear hB3
  go_wp2_with fail
  refine (alive09_any _).mono ?_
  rintro e w4 ⟨rfl, hB4⟩
  have HB4 := Lib.hid (bt HB3.out hB4)
  clear hB4
  go_wp2_with fail
  go_ret
  exact ⟨rfl, HB4.out⟩
set_option maxHeartbeats 16000000 in
theorem bp_no {w : World} {i b j : Int} {x : Ino} {v : Value} {ls : List St9} (hl : Sl9 w v ls) (hx : x.Wf) (hm : ¬ Mays i b j) :
    Calls Tryz.prog 4 #[gv i b j, .agg (ic x), v] w fun e w' => e = .returned (.bool true) ∧ Below w.heap.size w w' := by
  have HXW := Lib.hid hx
  have HNM := Lib.hid hm
  have HMAY : Hid (∀ W, Calls Tryz.prog 24 #[.agg #[.int .i64 i, .int .i64 b, .int .i64 j]] W fun e w' => e = .returned (.bool false) ∧ Below W.heap.size W w') := Lib.hid (fun W => geo_may_no hm W)
  have HSN := Lib.hid (fun W => bset_nil (i := i) (b := b) (j := j) (x := x) W)
  have HBN := Lib.hid (fun W => bbegin_nil (i := i) (b := b) (j := j) (x := x) W)
  have HAN := Lib.hid (fun W => ball_nil (i := i) (b := b) (j := j) (x := x) W)
  have HCN := Lib.hid (fun W => bcut_nil (i := i) (b := b) (j := j) (x := x) W)
  unfold gv ic at HSN HBN HAN HCN
  have hmn := fun W => made9_no hm W
  unfold gv at hmn
  have HMN := Lib.hid hmn
  clear hmn hm hx
  have hlg := fun (W : World) (hB : Below w.heap.size w W) => long9_any (hl.of hB)
  have HLG := Lib.hid hlg
  clear hlg
  unfold gv ic
  go_enter Tryz.func4, Tryz.ntmps4
  go_wp2_with fail
  obtain ⟨W1, hW1⟩ : ∃ W1, (w.alloc (.cells #[.int .i64 i, .int .i64 b, .int .i64 j] 56)).alloc (.cells #[.int .u8 x.k, .int .u16 x.l, .int .u32 x.s, .int .u16 x.d0, .int .u16 x.d1, .int .u16 x.d2, .int .u16 x.d3, .int .u16 x.n] 61) = W1 := ⟨_, rfl⟩
  have cg : W1.heap[w.heap.size]? = some (.cells #[.int .i64 i, .int .i64 b, .int .i64 j] 56 (0, 0)) := by rw [← hW1, hp_old _ _ (by simp), hp_new _ _ rfl]
  have cx : W1.heap[w.heap.size + 1]? = some (.cells #[.int .u8 x.k, .int .u16 x.l, .int .u32 x.s, .int .u16 x.d0, .int .u16 x.d1, .int .u16 x.d2, .int .u16 x.d3, .int .u16 x.n] 61 (0, 0)) := by rw [← hW1, hp_new _ _ (by simp)]
  have hB1 : Below w.heap.size w W1 := by rw [← hW1]; exact bal (bnew _ _) _
  simp only [hW1]
  clear hW1
  refine (HLG.out _ hB1).mono ?_
  rintro e w2 ⟨lb, rfl, hlb, h12⟩
  subst h12
  obtain ⟨bg, hbg⟩ : ∃ bg, w.heap.size = bg := ⟨_, rfl⟩
  obtain ⟨bx, hbx⟩ : ∃ bx, bg + 1 = bx := ⟨_, rfl⟩
  rw [hbg] at cg cx
  rw [hbx] at cx
  simp only [hbg, hbx]
  have HO : Hid (w.heap.size = bg ∧ bg + 1 = bx) := Lib.hid ⟨hbg, hbx⟩
  clear hbg hbx
  have HB := Lib.hid hB1
  have HG := Lib.hid cg
  have HX := Lib.hid cx
  clear hB1
  cases lb
  rotate_left
  · clear cg cx
    go_wp2_with fail
    refine (alive09_any _).mono ?_
    rintro e w3 ⟨rfl, hB3⟩
    have HB3 := Lib.hid (bt HB.out hB3)
    clear hB3
    go_wp2_with fail
    go_ret
    exact ⟨rfl, HB3.out⟩
  have HL80 := Lib.hid (hlb rfl)
  clear hlb
  have g0 := cl_of cg 0
  have g1 := cl_of cg 1
  have g2 := cl_of cg 2
  have q0 := cl_of cx 0
  have q1 := cl_of cx 1
  have q2 := cl_of cx 2
  have q3 := cl_of cx 3
  have q4 := cl_of cx 4
  have q5 := cl_of cx 5
  have q6 := cl_of cx 6
  have q7 := cl_of cx 7
  have lg := blk_lt cg
  have lx := blk_lt cx
  clear cg cx
  by_cases hb : b > 60
  · have e1 : decide (b > 60) = true := decide_eq_true hb
    clear hb
    go_wp2_with fail
    refine (HMAY.out _).mono ?_
    rintro e w3 ⟨rfl, hB3⟩
    have hBB := hB3
    have cg3 := bblk hBB HG.out
    have cx3 := bblk hBB HX.out
    have HB' := Lib.hid (bt HB.out hBB)
    clear HB HG HX g0 g1 g2 q0 q1 q2 q3 q4 q5 q6 q7 lg lx hBB hB3
    have HB := HB'
    clear HB'
    have HG := Lib.hid cg3
    have HX := Lib.hid cx3
    have g0 := cl_of cg3 0
    have g1 := cl_of cg3 1
    have g2 := cl_of cg3 2
    have q0 := cl_of cx3 0
    have q1 := cl_of cx3 1
    have q2 := cl_of cx3 2
    have q3 := cl_of cx3 3
    have q4 := cl_of cx3 4
    have q5 := cl_of cx3 5
    have q6 := cl_of cx3 6
    have q7 := cl_of cx3 7
    have lg := blk_lt cg3
    have lx := blk_lt cx3
    clear cg3 cx3
    by_cases hj : j = 40
    · have e2 : (j != 40) = false := by simpa using hj
      clear hj
      go_wp2_with fail
      refine (HSN.out _).mono ?_
      rintro e w5 ⟨rfl, hB5⟩
      have hBB := hB5
      have cg5 := bblk hBB HG.out
      have cx5 := bblk hBB HX.out
      have HB' := Lib.hid (bt HB.out hBB)
      clear HB HG HX g0 g1 g2 q0 q1 q2 q3 q4 q5 q6 q7 lg lx hBB hB5
      have HB := HB'
      clear HB'
      have HG := Lib.hid cg5
      have HX := Lib.hid cx5
      have g0 := cl_of cg5 0
      have g1 := cl_of cg5 1
      have g2 := cl_of cg5 2
      have q0 := cl_of cx5 0
      have q1 := cl_of cx5 1
      have q2 := cl_of cx5 2
      have q3 := cl_of cx5 3
      have q4 := cl_of cx5 4
      have q5 := cl_of cx5 5
      have q6 := cl_of cx5 6
      have q7 := cl_of cx5 7
      have lg := blk_lt cg5
      have lx := blk_lt cx5
      clear cg5 cx5
      go_wp2_with fail
      refine (HBN.out _).mono ?_
      rintro e w6 ⟨rfl, hB6⟩
      have hBB := bt (bnew w5 _) hB6
      have cg6 := bblk hBB HG.out
      have cx6 := bblk hBB HX.out
      have HB' := Lib.hid (bt HB.out hBB)
      clear HB HG HX g0 g1 g2 q0 q1 q2 q3 q4 q5 q6 q7 lg lx hBB hB6
      have HB := HB'
      clear HB'
      have HG := Lib.hid cg6
      have HX := Lib.hid cx6
      have g0 := cl_of cg6 0
      have g1 := cl_of cg6 1
      have g2 := cl_of cg6 2
      have q0 := cl_of cx6 0
      have q1 := cl_of cx6 1
      have q2 := cl_of cx6 2
      have q3 := cl_of cx6 3
      have q4 := cl_of cx6 4
      have q5 := cl_of cx6 5
      have q6 := cl_of cx6 6
      have q7 := cl_of cx6 7
      have lg := blk_lt cg6
      have lx := blk_lt cx6
      clear cg6 cx6
      go_wp2_with fail
      refine (HAN.out _).mono ?_
      rintro e w7 ⟨rfl, hB7⟩
      have hBB := bt (bnew w6 _) hB7
      have cg7 := bblk hBB HG.out
      have cx7 := bblk hBB HX.out
      have HB' := Lib.hid (bt HB.out hBB)
      clear HB HG HX g0 g1 g2 q0 q1 q2 q3 q4 q5 q6 q7 lg lx hBB hB7
      have HB := HB'
      clear HB'
      have HG := Lib.hid cg7
      have HX := Lib.hid cx7
      have g0 := cl_of cg7 0
      have g1 := cl_of cg7 1
      have g2 := cl_of cg7 2
      have q0 := cl_of cx7 0
      have q1 := cl_of cx7 1
      have q2 := cl_of cx7 2
      have q3 := cl_of cx7 3
      have q4 := cl_of cx7 4
      have q5 := cl_of cx7 5
      have q6 := cl_of cx7 6
      have q7 := cl_of cx7 7
      have lg := blk_lt cg7
      have lx := blk_lt cx7
      clear cg7 cx7
      go_wp2_with fail
      refine (HCN.out _).mono ?_
      rintro e w8 ⟨rfl, hB8⟩
      have hBB := hB8
      have cg8 := bblk hBB HG.out
      have cx8 := bblk hBB HX.out
      have HB' := Lib.hid (bt HB.out hBB)
      clear HB HG HX g0 g1 g2 q0 q1 q2 q3 q4 q5 q6 q7 lg lx hBB hB8
      have HB := HB'
      clear HB'
      have HG := Lib.hid cg8
      have HX := Lib.hid cx8
      have g0 := cl_of cg8 0
      have g1 := cl_of cg8 1
      have g2 := cl_of cg8 2
      have q0 := cl_of cx8 0
      have q1 := cl_of cx8 1
      have q2 := cl_of cx8 2
      have q3 := cl_of cx8 3
      have q4 := cl_of cx8 4
      have q5 := cl_of cx8 5
      have q6 := cl_of cx8 6
      have q7 := cl_of cx8 7
      have lg := blk_lt cg8
      have lx := blk_lt cx8
      clear cg8 cx8
      go_wp2_with fail
      refine (HMN.out _).mono ?_
      rintro e w9 ⟨rfl, hB9⟩
      have hBB := bt (bnew w8 _) hB9
      have cg9 := bblk hBB HG.out
      have cx9 := bblk hBB HX.out
      have HB' := Lib.hid (bt HB.out hBB)
      clear HB HG HX g0 g1 g2 q0 q1 q2 q3 q4 q5 q6 q7 lg lx hBB hB9
      have HB := HB'
      clear HB'
      have HG := Lib.hid cg9
      have HX := Lib.hid cx9
      have g0 := cl_of cg9 0
      have g1 := cl_of cg9 1
      have g2 := cl_of cg9 2
      have q0 := cl_of cx9 0
      have q1 := cl_of cx9 1
      have q2 := cl_of cx9 2
      have q3 := cl_of cx9 3
      have q4 := cl_of cx9 4
      have q5 := cl_of cx9 5
      have q6 := cl_of cx9 6
      have q7 := cl_of cx9 7
      have lg := blk_lt cg9
      have lx := blk_lt cx9
      clear cg9 cx9
      go_wp2_with fail
      refine (HMAY.out _).mono ?_
      rintro e w10 ⟨rfl, hB10⟩
      have hBB := hB10
      have cg10 := bblk hBB HG.out
      have cx10 := bblk hBB HX.out
      have HB' := Lib.hid (bt HB.out hBB)
      clear HB HG HX g0 g1 g2 q0 q1 q2 q3 q4 q5 q6 q7 lg lx hBB hB10
      have HB := HB'
      clear HB'
      have HG := Lib.hid cg10
      have HX := Lib.hid cx10
      have g0 := cl_of cg10 0
      have g1 := cl_of cg10 1
      have g2 := cl_of cg10 2
      have q0 := cl_of cx10 0
      have q1 := cl_of cx10 1
      have q2 := cl_of cx10 2
      have q3 := cl_of cx10 3
      have q4 := cl_of cx10 4
      have q5 := cl_of cx10 5
      have q6 := cl_of cx10 6
      have q7 := cl_of cx10 7
      have lg := blk_lt cg10
      have lx := blk_lt cx10
      clear cg10 cx10
      have hsmall := fun W => small_any W
      unfold gv at hsmall
      have HSM := Lib.hid hsmall
      clear hsmall
      go_wp2_with fail
      refine (HSM.out _).mono ?_
      rintro e w11 ⟨rfl, hB11⟩
      have hBB := hB11
      have cg11 := bblk hBB HG.out
      have cx11 := bblk hBB HX.out
      have HB' := Lib.hid (bt HB.out hBB)
      clear HB HG HX g0 g1 g2 q0 q1 q2 q3 q4 q5 q6 q7 lg lx hBB hB11
      have HB := HB'
      clear HB'
      have HG := Lib.hid cg11
      have HX := Lib.hid cx11
      have g0 := cl_of cg11 0
      have g1 := cl_of cg11 1
      have g2 := cl_of cg11 2
      have q0 := cl_of cx11 0
      have q1 := cl_of cx11 1
      have q2 := cl_of cx11 2
      have q3 := cl_of cx11 3
      have q4 := cl_of cx11 4
      have q5 := cl_of cx11 5
      have q6 := cl_of cx11 6
      have q7 := cl_of cx11 7
      have lg := blk_lt cg11
      have lx := blk_lt cx11
      clear cg11 cx11
      have hmk := fun (W : World) (hB : Below w.heap.size w W) => made9_any (w0 := w) (W := W) mays_small (N := 63) (by rfl) hB
      unfold gv at hmk
      have HMK := Lib.hid hmk
      clear hmk
      have HBA := Lib.hid (bal HB.out (.cells #[.int .i64 8, .int .i64 16, .int .i64 40] 56))
      go_wp2_with fail
      refine (HMK.out _ HBA.out).mono ?_
      rintro e w12 ⟨tb, p, rfl, X, jb, m, hT, hX, hjb, htb, hm, hB12⟩
      have hBB := bt (bnew w11 _) hB12
      have cg12 := bblk hBB HG.out
      have cx12 := bblk hBB HX.out
      have HB' := Lib.hid (bt HB.out hBB)
      clear HB HG HX g0 g1 g2 q0 q1 q2 q3 q4 q5 q6 q7 lg lx hBB hB12 hT hX hjb htb hm HBA
      have HB := HB'
      clear HB'
      have HG := Lib.hid cg12
      have HX := Lib.hid cx12
      have g0 := cl_of cg12 0
      have g1 := cl_of cg12 1
      have g2 := cl_of cg12 2
      have q0 := cl_of cx12 0
      have q1 := cl_of cx12 1
      have q2 := cl_of cx12 2
      have q3 := cl_of cx12 3
      have q4 := cl_of cx12 4
      have q5 := cl_of cx12 5
      have q6 := cl_of cx12 6
      have q7 := cl_of cx12 7
      have lg := blk_lt cg12
      have lx := blk_lt cx12
      clear cg12 cx12
      have hgn := fun W => bget_no (i := i) (b := b) (j := j) (tb := tb) HXW.out 0 (fun hh => HNM.out hh.1.g) W
      unfold gv ic at hgn
      have HGN := Lib.hid hgn
      clear hgn
      go_wp2_with fail
      refine (HGN.out _).mono ?_
      rintro e w13 ⟨rfl, hB13⟩
      have hBB := hB13
      have cg13 := bblk hBB HG.out
      have cx13 := bblk hBB HX.out
      have HB' := Lib.hid (bt HB.out hBB)
      clear HB HG HX g0 g1 g2 q0 q1 q2 q3 q4 q5 q6 q7 lg lx hBB hB13
      have HB := HB'
      clear HB'
      have HG := Lib.hid cg13
      have HX := Lib.hid cx13
      have g0 := cl_of cg13 0
      have g1 := cl_of cg13 1
      have g2 := cl_of cg13 2
      have q0 := cl_of cx13 0
      have q1 := cl_of cx13 1
      have q2 := cl_of cx13 2
      have q3 := cl_of cx13 3
      have q4 := cl_of cx13 4
      have q5 := cl_of cx13 5
      have q6 := cl_of cx13 6
      have q7 := cl_of cx13 7
      have lg := blk_lt cg13
      have lx := blk_lt cx13
      clear cg13 cx13
      clear g0 g1 g2 q0 q1 q2 q3 q4 q5 q6 q7 lg lx
      go_wp2_with fail
      refine (alive09_any _).mono ?_
      rintro e w14 ⟨rfl, hB14⟩
      have HB14 := Lib.hid (bt HB.out hB14)
      clear hB14
      go_wp2_with fail
      go_ret
      exact ⟨rfl, HB14.out⟩
    · have e2 : (j != 40) = true := by simpa using hj
      clear hj
      go_wp2_with fail
      refine (HMAY.out _).mono ?_
      rintro e w4 ⟨rfl, hB4⟩
      have hBB := hB4
      have cg4 := bblk hBB HG.out
      have cx4 := bblk hBB HX.out
      have HB' := Lib.hid (bt HB.out hBB)
      clear HB HG HX g0 g1 g2 q0 q1 q2 q3 q4 q5 q6 q7 lg lx hBB hB4
      have HB := HB'
      clear HB'
      have HG := Lib.hid cg4
      have HX := Lib.hid cx4
      have g0 := cl_of cg4 0
      have g1 := cl_of cg4 1
      have g2 := cl_of cg4 2
      have q0 := cl_of cx4 0
      have q1 := cl_of cx4 1
      have q2 := cl_of cx4 2
      have q3 := cl_of cx4 3
      have q4 := cl_of cx4 4
      have q5 := cl_of cx4 5
      have q6 := cl_of cx4 6
      have q7 := cl_of cx4 7
      have lg := blk_lt cg4
      have lx := blk_lt cx4
      clear cg4 cx4
      go_wp2_with fail
      refine (HSN.out _).mono ?_
      rintro e w5 ⟨rfl, hB5⟩
      have hBB := hB5
      have cg5 := bblk hBB HG.out
      have cx5 := bblk hBB HX.out
      have HB' := Lib.hid (bt HB.out hBB)
      clear HB HG HX g0 g1 g2 q0 q1 q2 q3 q4 q5 q6 q7 lg lx hBB hB5
      have HB := HB'
      clear HB'
      have HG := Lib.hid cg5
      have HX := Lib.hid cx5
      have g0 := cl_of cg5 0
      have g1 := cl_of cg5 1
      have g2 := cl_of cg5 2
      have q0 := cl_of cx5 0
      have q1 := cl_of cx5 1
      have q2 := cl_of cx5 2
      have q3 := cl_of cx5 3
      have q4 := cl_of cx5 4
      have q5 := cl_of cx5 5
      have q6 := cl_of cx5 6
      have q7 := cl_of cx5 7
      have lg := blk_lt cg5
      have lx := blk_lt cx5
      clear cg5 cx5
      go_wp2_with fail
      refine (HBN.out _).mono ?_
      rintro e w6 ⟨rfl, hB6⟩
      have hBB := bt (bnew w5 _) hB6
      have cg6 := bblk hBB HG.out
      have cx6 := bblk hBB HX.out
      have HB' := Lib.hid (bt HB.out hBB)
      clear HB HG HX g0 g1 g2 q0 q1 q2 q3 q4 q5 q6 q7 lg lx hBB hB6
      have HB := HB'
      clear HB'
      have HG := Lib.hid cg6
      have HX := Lib.hid cx6
      have g0 := cl_of cg6 0
      have g1 := cl_of cg6 1
      have g2 := cl_of cg6 2
      have q0 := cl_of cx6 0
      have q1 := cl_of cx6 1
      have q2 := cl_of cx6 2
      have q3 := cl_of cx6 3
      have q4 := cl_of cx6 4
      have q5 := cl_of cx6 5
      have q6 := cl_of cx6 6
      have q7 := cl_of cx6 7
      have lg := blk_lt cg6
      have lx := blk_lt cx6
      clear cg6 cx6
      go_wp2_with fail
      refine (HAN.out _).mono ?_
      rintro e w7 ⟨rfl, hB7⟩
      have hBB := bt (bnew w6 _) hB7
      have cg7 := bblk hBB HG.out
      have cx7 := bblk hBB HX.out
      have HB' := Lib.hid (bt HB.out hBB)
      clear HB HG HX g0 g1 g2 q0 q1 q2 q3 q4 q5 q6 q7 lg lx hBB hB7
      have HB := HB'
      clear HB'
      have HG := Lib.hid cg7
      have HX := Lib.hid cx7
      have g0 := cl_of cg7 0
      have g1 := cl_of cg7 1
      have g2 := cl_of cg7 2
      have q0 := cl_of cx7 0
      have q1 := cl_of cx7 1
      have q2 := cl_of cx7 2
      have q3 := cl_of cx7 3
      have q4 := cl_of cx7 4
      have q5 := cl_of cx7 5
      have q6 := cl_of cx7 6
      have q7 := cl_of cx7 7
      have lg := blk_lt cg7
      have lx := blk_lt cx7
      clear cg7 cx7
      go_wp2_with fail
      refine (HCN.out _).mono ?_
      rintro e w8 ⟨rfl, hB8⟩
      have hBB := hB8
      have cg8 := bblk hBB HG.out
      have cx8 := bblk hBB HX.out
      have HB' := Lib.hid (bt HB.out hBB)
      clear HB HG HX g0 g1 g2 q0 q1 q2 q3 q4 q5 q6 q7 lg lx hBB hB8
      have HB := HB'
      clear HB'
      have HG := Lib.hid cg8
      have HX := Lib.hid cx8
      have g0 := cl_of cg8 0
      have g1 := cl_of cg8 1
      have g2 := cl_of cg8 2
      have q0 := cl_of cx8 0
      have q1 := cl_of cx8 1
      have q2 := cl_of cx8 2
      have q3 := cl_of cx8 3
      have q4 := cl_of cx8 4
      have q5 := cl_of cx8 5
      have q6 := cl_of cx8 6
      have q7 := cl_of cx8 7
      have lg := blk_lt cg8
      have lx := blk_lt cx8
      clear cg8 cx8
      go_wp2_with fail
      refine (HMN.out _).mono ?_
      rintro e w9 ⟨rfl, hB9⟩
      have hBB := bt (bnew w8 _) hB9
      have cg9 := bblk hBB HG.out
      have cx9 := bblk hBB HX.out
      have HB' := Lib.hid (bt HB.out hBB)
      clear HB HG HX g0 g1 g2 q0 q1 q2 q3 q4 q5 q6 q7 lg lx hBB hB9
      have HB := HB'
      clear HB'
      have HG := Lib.hid cg9
      have HX := Lib.hid cx9
      have g0 := cl_of cg9 0
      have g1 := cl_of cg9 1
      have g2 := cl_of cg9 2
      have q0 := cl_of cx9 0
      have q1 := cl_of cx9 1
      have q2 := cl_of cx9 2
      have q3 := cl_of cx9 3
      have q4 := cl_of cx9 4
      have q5 := cl_of cx9 5
      have q6 := cl_of cx9 6
      have q7 := cl_of cx9 7
      have lg := blk_lt cg9
      have lx := blk_lt cx9
      clear cg9 cx9
      go_wp2_with fail
      refine (HMAY.out _).mono ?_
      rintro e w10 ⟨rfl, hB10⟩
      have hBB := hB10
      have cg10 := bblk hBB HG.out
      have cx10 := bblk hBB HX.out
      have HB' := Lib.hid (bt HB.out hBB)
      clear HB HG HX g0 g1 g2 q0 q1 q2 q3 q4 q5 q6 q7 lg lx hBB hB10
      have HB := HB'
      clear HB'
      have HG := Lib.hid cg10
      have HX := Lib.hid cx10
      have g0 := cl_of cg10 0
      have g1 := cl_of cg10 1
      have g2 := cl_of cg10 2
      have q0 := cl_of cx10 0
      have q1 := cl_of cx10 1
      have q2 := cl_of cx10 2
      have q3 := cl_of cx10 3
      have q4 := cl_of cx10 4
      have q5 := cl_of cx10 5
      have q6 := cl_of cx10 6
      have q7 := cl_of cx10 7
      have lg := blk_lt cg10
      have lx := blk_lt cx10
      clear cg10 cx10
      have hsmall := fun W => small_any W
      unfold gv at hsmall
      have HSM := Lib.hid hsmall
      clear hsmall
      go_wp2_with fail
      refine (HSM.out _).mono ?_
      rintro e w11 ⟨rfl, hB11⟩
      have hBB := hB11
      have cg11 := bblk hBB HG.out
      have cx11 := bblk hBB HX.out
      have HB' := Lib.hid (bt HB.out hBB)
      clear HB HG HX g0 g1 g2 q0 q1 q2 q3 q4 q5 q6 q7 lg lx hBB hB11
      have HB := HB'
      clear HB'
      have HG := Lib.hid cg11
      have HX := Lib.hid cx11
      have g0 := cl_of cg11 0
      have g1 := cl_of cg11 1
      have g2 := cl_of cg11 2
      have q0 := cl_of cx11 0
      have q1 := cl_of cx11 1
      have q2 := cl_of cx11 2
      have q3 := cl_of cx11 3
      have q4 := cl_of cx11 4
      have q5 := cl_of cx11 5
      have q6 := cl_of cx11 6
      have q7 := cl_of cx11 7
      have lg := blk_lt cg11
      have lx := blk_lt cx11
      clear cg11 cx11
      have hmk := fun (W : World) (hB : Below w.heap.size w W) => made9_any (w0 := w) (W := W) mays_small (N := 63) (by rfl) hB
      unfold gv at hmk
      have HMK := Lib.hid hmk
      clear hmk
      have HBA := Lib.hid (bal HB.out (.cells #[.int .i64 8, .int .i64 16, .int .i64 40] 56))
      go_wp2_with fail
      refine (HMK.out _ HBA.out).mono ?_
      rintro e w12 ⟨tb, p, rfl, X, jb, m, hT, hX, hjb, htb, hm, hB12⟩
      have hBB := bt (bnew w11 _) hB12
      have cg12 := bblk hBB HG.out
      have cx12 := bblk hBB HX.out
      have HB' := Lib.hid (bt HB.out hBB)
      clear HB HG HX g0 g1 g2 q0 q1 q2 q3 q4 q5 q6 q7 lg lx hBB hB12 hT hX hjb htb hm HBA
      have HB := HB'
      clear HB'
      have HG := Lib.hid cg12
      have HX := Lib.hid cx12
      have g0 := cl_of cg12 0
      have g1 := cl_of cg12 1
      have g2 := cl_of cg12 2
      have q0 := cl_of cx12 0
      have q1 := cl_of cx12 1
      have q2 := cl_of cx12 2
      have q3 := cl_of cx12 3
      have q4 := cl_of cx12 4
      have q5 := cl_of cx12 5
      have q6 := cl_of cx12 6
      have q7 := cl_of cx12 7
      have lg := blk_lt cg12
      have lx := blk_lt cx12
      clear cg12 cx12
      have hgn := fun W => bget_no (i := i) (b := b) (j := j) (tb := tb) HXW.out 0 (fun hh => HNM.out hh.1.g) W
      unfold gv ic at hgn
      have HGN := Lib.hid hgn
      clear hgn
      go_wp2_with fail
      refine (HGN.out _).mono ?_
      rintro e w13 ⟨rfl, hB13⟩
      have hBB := hB13
      have cg13 := bblk hBB HG.out
      have cx13 := bblk hBB HX.out
      have HB' := Lib.hid (bt HB.out hBB)
      clear HB HG HX g0 g1 g2 q0 q1 q2 q3 q4 q5 q6 q7 lg lx hBB hB13
      have HB := HB'
      clear HB'
      have HG := Lib.hid cg13
      have HX := Lib.hid cx13
      have g0 := cl_of cg13 0
      have g1 := cl_of cg13 1
      have g2 := cl_of cg13 2
      have q0 := cl_of cx13 0
      have q1 := cl_of cx13 1
      have q2 := cl_of cx13 2
      have q3 := cl_of cx13 3
      have q4 := cl_of cx13 4
      have q5 := cl_of cx13 5
      have q6 := cl_of cx13 6
      have q7 := cl_of cx13 7
      have lg := blk_lt cg13
      have lx := blk_lt cx13
      clear cg13 cx13
      clear g0 g1 g2 q0 q1 q2 q3 q4 q5 q6 q7 lg lx
      go_wp2_with fail
      refine (alive09_any _).mono ?_
      rintro e w14 ⟨rfl, hB14⟩
      have HB14 := Lib.hid (bt HB.out hB14)
      clear hB14
      go_wp2_with fail
      go_ret
      exact ⟨rfl, HB14.out⟩
  · have e1 : decide (b > 60) = false := decide_eq_false hb
    clear hb
    by_cases hj : j = 40
    · have e2 : (j != 40) = false := by simpa using hj
      clear hj
      go_wp2_with fail
      refine (HSN.out _).mono ?_
      rintro e w5 ⟨rfl, hB5⟩
      have hBB := hB5
      have cg5 := bblk hBB HG.out
      have cx5 := bblk hBB HX.out
      have HB' := Lib.hid (bt HB.out hBB)
      clear HB HG HX g0 g1 g2 q0 q1 q2 q3 q4 q5 q6 q7 lg lx hBB hB5
      have HB := HB'
      clear HB'
      have HG := Lib.hid cg5
      have HX := Lib.hid cx5
      have g0 := cl_of cg5 0
      have g1 := cl_of cg5 1
      have g2 := cl_of cg5 2
      have q0 := cl_of cx5 0
      have q1 := cl_of cx5 1
      have q2 := cl_of cx5 2
      have q3 := cl_of cx5 3
      have q4 := cl_of cx5 4
      have q5 := cl_of cx5 5
      have q6 := cl_of cx5 6
      have q7 := cl_of cx5 7
      have lg := blk_lt cg5
      have lx := blk_lt cx5
      clear cg5 cx5
      go_wp2_with fail
      refine (HBN.out _).mono ?_
      rintro e w6 ⟨rfl, hB6⟩
      have hBB := bt (bnew w5 _) hB6
      have cg6 := bblk hBB HG.out
      have cx6 := bblk hBB HX.out
      have HB' := Lib.hid (bt HB.out hBB)
      clear HB HG HX g0 g1 g2 q0 q1 q2 q3 q4 q5 q6 q7 lg lx hBB hB6
      have HB := HB'
      clear HB'
      have HG := Lib.hid cg6
      have HX := Lib.hid cx6
      have g0 := cl_of cg6 0
      have g1 := cl_of cg6 1
      have g2 := cl_of cg6 2
      have q0 := cl_of cx6 0
      have q1 := cl_of cx6 1
      have q2 := cl_of cx6 2
      have q3 := cl_of cx6 3
      have q4 := cl_of cx6 4
      have q5 := cl_of cx6 5
      have q6 := cl_of cx6 6
      have q7 := cl_of cx6 7
      have lg := blk_lt cg6
      have lx := blk_lt cx6
      clear cg6 cx6
      go_wp2_with fail
      refine (HAN.out _).mono ?_
      rintro e w7 ⟨rfl, hB7⟩
      have hBB := bt (bnew w6 _) hB7
      have cg7 := bblk hBB HG.out
      have cx7 := bblk hBB HX.out
      have HB' := Lib.hid (bt HB.out hBB)
      clear HB HG HX g0 g1 g2 q0 q1 q2 q3 q4 q5 q6 q7 lg lx hBB hB7
      have HB := HB'
      clear HB'
      have HG := Lib.hid cg7
      have HX := Lib.hid cx7
      have g0 := cl_of cg7 0
      have g1 := cl_of cg7 1
      have g2 := cl_of cg7 2
      have q0 := cl_of cx7 0
      have q1 := cl_of cx7 1
      have q2 := cl_of cx7 2
      have q3 := cl_of cx7 3
      have q4 := cl_of cx7 4
      have q5 := cl_of cx7 5
      have q6 := cl_of cx7 6
      have q7 := cl_of cx7 7
      have lg := blk_lt cg7
      have lx := blk_lt cx7
      clear cg7 cx7
      go_wp2_with fail
      refine (HCN.out _).mono ?_
      rintro e w8 ⟨rfl, hB8⟩
      have hBB := hB8
      have cg8 := bblk hBB HG.out
      have cx8 := bblk hBB HX.out
      have HB' := Lib.hid (bt HB.out hBB)
      clear HB HG HX g0 g1 g2 q0 q1 q2 q3 q4 q5 q6 q7 lg lx hBB hB8
      have HB := HB'
      clear HB'
      have HG := Lib.hid cg8
      have HX := Lib.hid cx8
      have g0 := cl_of cg8 0
      have g1 := cl_of cg8 1
      have g2 := cl_of cg8 2
      have q0 := cl_of cx8 0
      have q1 := cl_of cx8 1
      have q2 := cl_of cx8 2
      have q3 := cl_of cx8 3
      have q4 := cl_of cx8 4
      have q5 := cl_of cx8 5
      have q6 := cl_of cx8 6
      have q7 := cl_of cx8 7
      have lg := blk_lt cg8
      have lx := blk_lt cx8
      clear cg8 cx8
      go_wp2_with fail
      refine (HMN.out _).mono ?_
      rintro e w9 ⟨rfl, hB9⟩
      have hBB := bt (bnew w8 _) hB9
      have cg9 := bblk hBB HG.out
      have cx9 := bblk hBB HX.out
      have HB' := Lib.hid (bt HB.out hBB)
      clear HB HG HX g0 g1 g2 q0 q1 q2 q3 q4 q5 q6 q7 lg lx hBB hB9
      have HB := HB'
      clear HB'
      have HG := Lib.hid cg9
      have HX := Lib.hid cx9
      have g0 := cl_of cg9 0
      have g1 := cl_of cg9 1
      have g2 := cl_of cg9 2
      have q0 := cl_of cx9 0
      have q1 := cl_of cx9 1
      have q2 := cl_of cx9 2
      have q3 := cl_of cx9 3
      have q4 := cl_of cx9 4
      have q5 := cl_of cx9 5
      have q6 := cl_of cx9 6
      have q7 := cl_of cx9 7
      have lg := blk_lt cg9
      have lx := blk_lt cx9
      clear cg9 cx9
      go_wp2_with fail
      refine (HMAY.out _).mono ?_
      rintro e w10 ⟨rfl, hB10⟩
      have hBB := hB10
      have cg10 := bblk hBB HG.out
      have cx10 := bblk hBB HX.out
      have HB' := Lib.hid (bt HB.out hBB)
      clear HB HG HX g0 g1 g2 q0 q1 q2 q3 q4 q5 q6 q7 lg lx hBB hB10
      have HB := HB'
      clear HB'
      have HG := Lib.hid cg10
      have HX := Lib.hid cx10
      have g0 := cl_of cg10 0
      have g1 := cl_of cg10 1
      have g2 := cl_of cg10 2
      have q0 := cl_of cx10 0
      have q1 := cl_of cx10 1
      have q2 := cl_of cx10 2
      have q3 := cl_of cx10 3
      have q4 := cl_of cx10 4
      have q5 := cl_of cx10 5
      have q6 := cl_of cx10 6
      have q7 := cl_of cx10 7
      have lg := blk_lt cg10
      have lx := blk_lt cx10
      clear cg10 cx10
      have hsmall := fun W => small_any W
      unfold gv at hsmall
      have HSM := Lib.hid hsmall
      clear hsmall
      go_wp2_with fail
      refine (HSM.out _).mono ?_
      rintro e w11 ⟨rfl, hB11⟩
      have hBB := hB11
      have cg11 := bblk hBB HG.out
      have cx11 := bblk hBB HX.out
      have HB' := Lib.hid (bt HB.out hBB)
      clear HB HG HX g0 g1 g2 q0 q1 q2 q3 q4 q5 q6 q7 lg lx hBB hB11
      have HB := HB'
      clear HB'
      have HG := Lib.hid cg11
      have HX := Lib.hid cx11
      have g0 := cl_of cg11 0
      have g1 := cl_of cg11 1
      have g2 := cl_of cg11 2
      have q0 := cl_of cx11 0
      have q1 := cl_of cx11 1
      have q2 := cl_of cx11 2
      have q3 := cl_of cx11 3
      have q4 := cl_of cx11 4
      have q5 := cl_of cx11 5
      have q6 := cl_of cx11 6
      have q7 := cl_of cx11 7
      have lg := blk_lt cg11
      have lx := blk_lt cx11
      clear cg11 cx11
      have hmk := fun (W : World) (hB : Below w.heap.size w W) => made9_any (w0 := w) (W := W) mays_small (N := 63) (by rfl) hB
      unfold gv at hmk
      have HMK := Lib.hid hmk
      clear hmk
      have HBA := Lib.hid (bal HB.out (.cells #[.int .i64 8, .int .i64 16, .int .i64 40] 56))
      go_wp2_with fail
      refine (HMK.out _ HBA.out).mono ?_
      rintro e w12 ⟨tb, p, rfl, X, jb, m, hT, hX, hjb, htb, hm, hB12⟩
      have hBB := bt (bnew w11 _) hB12
      have cg12 := bblk hBB HG.out
      have cx12 := bblk hBB HX.out
      have HB' := Lib.hid (bt HB.out hBB)
      clear HB HG HX g0 g1 g2 q0 q1 q2 q3 q4 q5 q6 q7 lg lx hBB hB12 hT hX hjb htb hm HBA
      have HB := HB'
      clear HB'
      have HG := Lib.hid cg12
      have HX := Lib.hid cx12
      have g0 := cl_of cg12 0
      have g1 := cl_of cg12 1
      have g2 := cl_of cg12 2
      have q0 := cl_of cx12 0
      have q1 := cl_of cx12 1
      have q2 := cl_of cx12 2
      have q3 := cl_of cx12 3
      have q4 := cl_of cx12 4
      have q5 := cl_of cx12 5
      have q6 := cl_of cx12 6
      have q7 := cl_of cx12 7
      have lg := blk_lt cg12
      have lx := blk_lt cx12
      clear cg12 cx12
      have hgn := fun W => bget_no (i := i) (b := b) (j := j) (tb := tb) HXW.out 0 (fun hh => HNM.out hh.1.g) W
      unfold gv ic at hgn
      have HGN := Lib.hid hgn
      clear hgn
      go_wp2_with fail
      refine (HGN.out _).mono ?_
      rintro e w13 ⟨rfl, hB13⟩
      have hBB := hB13
      have cg13 := bblk hBB HG.out
      have cx13 := bblk hBB HX.out
      have HB' := Lib.hid (bt HB.out hBB)
      clear HB HG HX g0 g1 g2 q0 q1 q2 q3 q4 q5 q6 q7 lg lx hBB hB13
      have HB := HB'
      clear HB'
      have HG := Lib.hid cg13
      have HX := Lib.hid cx13
      have g0 := cl_of cg13 0
      have g1 := cl_of cg13 1
      have g2 := cl_of cg13 2
      have q0 := cl_of cx13 0
      have q1 := cl_of cx13 1
      have q2 := cl_of cx13 2
      have q3 := cl_of cx13 3
      have q4 := cl_of cx13 4
      have q5 := cl_of cx13 5
      have q6 := cl_of cx13 6
      have q7 := cl_of cx13 7
      have lg := blk_lt cg13
      have lx := blk_lt cx13
      clear cg13 cx13
      clear g0 g1 g2 q0 q1 q2 q3 q4 q5 q6 q7 lg lx
      go_wp2_with fail
      refine (alive09_any _).mono ?_
      rintro e w14 ⟨rfl, hB14⟩
      have HB14 := Lib.hid (bt HB.out hB14)
      clear hB14
      go_wp2_with fail
      go_ret
      exact ⟨rfl, HB14.out⟩
    · have e2 : (j != 40) = true := by simpa using hj
      clear hj
      go_wp2_with fail
      refine (HMAY.out _).mono ?_
      rintro e w4 ⟨rfl, hB4⟩
      have hBB := hB4
      have cg4 := bblk hBB HG.out
      have cx4 := bblk hBB HX.out
      have HB' := Lib.hid (bt HB.out hBB)
      clear HB HG HX g0 g1 g2 q0 q1 q2 q3 q4 q5 q6 q7 lg lx hBB hB4
      have HB := HB'
      clear HB'
      have HG := Lib.hid cg4
      have HX := Lib.hid cx4
      have g0 := cl_of cg4 0
      have g1 := cl_of cg4 1
      have g2 := cl_of cg4 2
      have q0 := cl_of cx4 0
      have q1 := cl_of cx4 1
      have q2 := cl_of cx4 2
      have q3 := cl_of cx4 3
      have q4 := cl_of cx4 4
      have q5 := cl_of cx4 5
      have q6 := cl_of cx4 6
      have q7 := cl_of cx4 7
      have lg := blk_lt cg4
      have lx := blk_lt cx4
      clear cg4 cx4
      go_wp2_with fail
      refine (HSN.out _).mono ?_
      rintro e w5 ⟨rfl, hB5⟩
      have hBB := hB5
      have cg5 := bblk hBB HG.out
      have cx5 := bblk hBB HX.out
      have HB' := Lib.hid (bt HB.out hBB)
      clear HB HG HX g0 g1 g2 q0 q1 q2 q3 q4 q5 q6 q7 lg lx hBB hB5
      have HB := HB'
      clear HB'
      have HG := Lib.hid cg5
      have HX := Lib.hid cx5
      have g0 := cl_of cg5 0
      have g1 := cl_of cg5 1
      have g2 := cl_of cg5 2
      have q0 := cl_of cx5 0
      have q1 := cl_of cx5 1
      have q2 := cl_of cx5 2
      have q3 := cl_of cx5 3
      have q4 := cl_of cx5 4
      have q5 := cl_of cx5 5
      have q6 := cl_of cx5 6
      have q7 := cl_of cx5 7
      have lg := blk_lt cg5
      have lx := blk_lt cx5
      clear cg5 cx5
      go_wp2_with fail
      refine (HBN.out _).mono ?_
      rintro e w6 ⟨rfl, hB6⟩
      have hBB := bt (bnew w5 _) hB6
      have cg6 := bblk hBB HG.out
      have cx6 := bblk hBB HX.out
      have HB' := Lib.hid (bt HB.out hBB)
      clear HB HG HX g0 g1 g2 q0 q1 q2 q3 q4 q5 q6 q7 lg lx hBB hB6
      have HB := HB'
      clear HB'
      have HG := Lib.hid cg6
      have HX := Lib.hid cx6
      have g0 := cl_of cg6 0
      have g1 := cl_of cg6 1
      have g2 := cl_of cg6 2
      have q0 := cl_of cx6 0
      have q1 := cl_of cx6 1
      have q2 := cl_of cx6 2
      have q3 := cl_of cx6 3
      have q4 := cl_of cx6 4
      have q5 := cl_of cx6 5
      have q6 := cl_of cx6 6
      have q7 := cl_of cx6 7
      have lg := blk_lt cg6
      have lx := blk_lt cx6
      clear cg6 cx6
      go_wp2_with fail
      refine (HAN.out _).mono ?_
      rintro e w7 ⟨rfl, hB7⟩
      have hBB := bt (bnew w6 _) hB7
      have cg7 := bblk hBB HG.out
      have cx7 := bblk hBB HX.out
      have HB' := Lib.hid (bt HB.out hBB)
      clear HB HG HX g0 g1 g2 q0 q1 q2 q3 q4 q5 q6 q7 lg lx hBB hB7
      have HB := HB'
      clear HB'
      have HG := Lib.hid cg7
      have HX := Lib.hid cx7
      have g0 := cl_of cg7 0
      have g1 := cl_of cg7 1
      have g2 := cl_of cg7 2
      have q0 := cl_of cx7 0
      have q1 := cl_of cx7 1
      have q2 := cl_of cx7 2
      have q3 := cl_of cx7 3
      have q4 := cl_of cx7 4
      have q5 := cl_of cx7 5
      have q6 := cl_of cx7 6
      have q7 := cl_of cx7 7
      have lg := blk_lt cg7
      have lx := blk_lt cx7
      clear cg7 cx7
      go_wp2_with fail
      refine (HCN.out _).mono ?_
      rintro e w8 ⟨rfl, hB8⟩
      have hBB := hB8
      have cg8 := bblk hBB HG.out
      have cx8 := bblk hBB HX.out
      have HB' := Lib.hid (bt HB.out hBB)
      clear HB HG HX g0 g1 g2 q0 q1 q2 q3 q4 q5 q6 q7 lg lx hBB hB8
      have HB := HB'
      clear HB'
      have HG := Lib.hid cg8
      have HX := Lib.hid cx8
      have g0 := cl_of cg8 0
      have g1 := cl_of cg8 1
      have g2 := cl_of cg8 2
      have q0 := cl_of cx8 0
      have q1 := cl_of cx8 1
      have q2 := cl_of cx8 2
      have q3 := cl_of cx8 3
      have q4 := cl_of cx8 4
      have q5 := cl_of cx8 5
      have q6 := cl_of cx8 6
      have q7 := cl_of cx8 7
      have lg := blk_lt cg8
      have lx := blk_lt cx8
      clear cg8 cx8
      go_wp2_with fail
      refine (HMN.out _).mono ?_
      rintro e w9 ⟨rfl, hB9⟩
      have hBB := bt (bnew w8 _) hB9
      have cg9 := bblk hBB HG.out
      have cx9 := bblk hBB HX.out
      have HB' := Lib.hid (bt HB.out hBB)
      clear HB HG HX g0 g1 g2 q0 q1 q2 q3 q4 q5 q6 q7 lg lx hBB hB9
      have HB := HB'
      clear HB'
      have HG := Lib.hid cg9
      have HX := Lib.hid cx9
      have g0 := cl_of cg9 0
      have g1 := cl_of cg9 1
      have g2 := cl_of cg9 2
      have q0 := cl_of cx9 0
      have q1 := cl_of cx9 1
      have q2 := cl_of cx9 2
      have q3 := cl_of cx9 3
      have q4 := cl_of cx9 4
      have q5 := cl_of cx9 5
      have q6 := cl_of cx9 6
      have q7 := cl_of cx9 7
      have lg := blk_lt cg9
      have lx := blk_lt cx9
      clear cg9 cx9
      go_wp2_with fail
      refine (HMAY.out _).mono ?_
      rintro e w10 ⟨rfl, hB10⟩
      have hBB := hB10
      have cg10 := bblk hBB HG.out
      have cx10 := bblk hBB HX.out
      have HB' := Lib.hid (bt HB.out hBB)
      clear HB HG HX g0 g1 g2 q0 q1 q2 q3 q4 q5 q6 q7 lg lx hBB hB10
      have HB := HB'
      clear HB'
      have HG := Lib.hid cg10
      have HX := Lib.hid cx10
      have g0 := cl_of cg10 0
      have g1 := cl_of cg10 1
      have g2 := cl_of cg10 2
      have q0 := cl_of cx10 0
      have q1 := cl_of cx10 1
      have q2 := cl_of cx10 2
      have q3 := cl_of cx10 3
      have q4 := cl_of cx10 4
      have q5 := cl_of cx10 5
      have q6 := cl_of cx10 6
      have q7 := cl_of cx10 7
      have lg := blk_lt cg10
      have lx := blk_lt cx10
      clear cg10 cx10
      have hsmall := fun W => small_any W
      unfold gv at hsmall
      have HSM := Lib.hid hsmall
      clear hsmall
      go_wp2_with fail
      refine (HSM.out _).mono ?_
      rintro e w11 ⟨rfl, hB11⟩
      have hBB := hB11
      have cg11 := bblk hBB HG.out
      have cx11 := bblk hBB HX.out
      have HB' := Lib.hid (bt HB.out hBB)
      clear HB HG HX g0 g1 g2 q0 q1 q2 q3 q4 q5 q6 q7 lg lx hBB hB11
      have HB := HB'
      clear HB'
      have HG := Lib.hid cg11
      have HX := Lib.hid cx11
      have g0 := cl_of cg11 0
      have g1 := cl_of cg11 1
      have g2 := cl_of cg11 2
      have q0 := cl_of cx11 0
      have q1 := cl_of cx11 1
      have q2 := cl_of cx11 2
      have q3 := cl_of cx11 3
      have q4 := cl_of cx11 4
      have q5 := cl_of cx11 5
      have q6 := cl_of cx11 6
      have q7 := cl_of cx11 7
      have lg := blk_lt cg11
      have lx := blk_lt cx11
      clear cg11 cx11
      have hmk := fun (W : World) (hB : Below w.heap.size w W) => made9_any (w0 := w) (W := W) mays_small (N := 63) (by rfl) hB
      unfold gv at hmk
      have HMK := Lib.hid hmk
      clear hmk
      have HBA := Lib.hid (bal HB.out (.cells #[.int .i64 8, .int .i64 16, .int .i64 40] 56))
      go_wp2_with fail
      refine (HMK.out _ HBA.out).mono ?_
      rintro e w12 ⟨tb, p, rfl, X, jb, m, hT, hX, hjb, htb, hm, hB12⟩
      have hBB := bt (bnew w11 _) hB12
      have cg12 := bblk hBB HG.out
      have cx12 := bblk hBB HX.out
      have HB' := Lib.hid (bt HB.out hBB)
      clear HB HG HX g0 g1 g2 q0 q1 q2 q3 q4 q5 q6 q7 lg lx hBB hB12 hT hX hjb htb hm HBA
      have HB := HB'
      clear HB'
      have HG := Lib.hid cg12
      have HX := Lib.hid cx12
      have g0 := cl_of cg12 0
      have g1 := cl_of cg12 1
      have g2 := cl_of cg12 2
      have q0 := cl_of cx12 0
      have q1 := cl_of cx12 1
      have q2 := cl_of cx12 2
      have q3 := cl_of cx12 3
      have q4 := cl_of cx12 4
      have q5 := cl_of cx12 5
      have q6 := cl_of cx12 6
      have q7 := cl_of cx12 7
      have lg := blk_lt cg12
      have lx := blk_lt cx12
      clear cg12 cx12
      have hgn := fun W => bget_no (i := i) (b := b) (j := j) (tb := tb) HXW.out 0 (fun hh => HNM.out hh.1.g) W
      unfold gv ic at hgn
      have HGN := Lib.hid hgn
      clear hgn
      go_wp2_with fail
      refine (HGN.out _).mono ?_
      rintro e w13 ⟨rfl, hB13⟩
      have hBB := hB13
      have cg13 := bblk hBB HG.out
      have cx13 := bblk hBB HX.out
      have HB' := Lib.hid (bt HB.out hBB)
      clear HB HG HX g0 g1 g2 q0 q1 q2 q3 q4 q5 q6 q7 lg lx hBB hB13
      have HB := HB'
      clear HB'
      have HG := Lib.hid cg13
      have HX := Lib.hid cx13
      have g0 := cl_of cg13 0
      have g1 := cl_of cg13 1
      have g2 := cl_of cg13 2
      have q0 := cl_of cx13 0
      have q1 := cl_of cx13 1
      have q2 := cl_of cx13 2
      have q3 := cl_of cx13 3
      have q4 := cl_of cx13 4
      have q5 := cl_of cx13 5
      have q6 := cl_of cx13 6
      have q7 := cl_of cx13 7
      have lg := blk_lt cg13
      have lx := blk_lt cx13
      clear cg13 cx13
      clear g0 g1 g2 q0 q1 q2 q3 q4 q5 q6 q7 lg lx
      go_wp2_with fail
      refine (alive09_any _).mono ?_
      rintro e w14 ⟨rfl, hB14⟩
      have HB14 := Lib.hid (bt HB.out hB14)
      clear hB14
      go_wp2_with fail
      go_ret
      exact ⟨rfl, HB14.out⟩
set_option maxHeartbeats 16000000 in
theorem bp_main {w : World} {i b j : Int} {x : Ino} {v : Value} {ls : List St9} (hl : Sl9 w v ls) (hx : x.Wf) (hm : Mays i b 40) (hb : b ≤ 60) :
    Calls Tryz.prog 4 #[gv i b 40, .agg (ic x), v] w fun e w' => e = .returned (.bool true) ∧ Below w.heap.size w w' := by
  have hfr := fr6 i b 40
  obtain ⟨N, hN⟩ : ∃ N : Nat, (N : Int) = fr i b 40 6 := ⟨(fr i b 40 6).toNat, by have := (fr_bd hm (show 6 ≤ 6 by decide)).1; omega⟩
  have hN2 : N ≤ 2000 := by have := (fr_bd hm (show 6 ≤ 6 by decide)).2; omega
  have HGN : Hid (GeoN i b 40 N) := Lib.hid ⟨hm, hN⟩
  have HN2 := Lib.hid hN2
  have hsec := fun W => sectors_yes hm W
  rw [← hN] at hsec
  have HSEC := Lib.hid hsec
  have hmk := fun (W : World) (hB : Below w.heap.size w W) => made9_any (w0 := w) (W := W) hm hN hB
  unfold gv at hmk
  have HMK := Lib.hid hmk
  have HXW := Lib.hid hx
  have HMAY : Hid (∀ W, Calls Tryz.prog 24 #[.agg #[.int .i64 i, .int .i64 b, .int .i64 40]] W fun e w' => e = .returned (.bool true) ∧ Below W.heap.size W w') := Lib.hid (fun W => geo_may_yes hm W)
  have HSN := Lib.hid (fun W => bset_nil (i := i) (b := b) (j := 40) (x := x) W)
  have HBN := Lib.hid (fun W => bbegin_nil (i := i) (b := b) (j := 40) (x := x) W)
  have HAN := Lib.hid (fun W => ball_nil (i := i) (b := b) (j := 40) (x := x) W)
  have HCN := Lib.hid (fun W => bcut_nil (i := i) (b := b) (j := 40) (x := x) W)
  unfold gv ic at HSN HBN HAN HCN
  have HSL := Lib.hid hl
  clear hsec hmk hm hx hfr hN hN2
  have hlg := fun (W : World) (hB : Below w.heap.size w W) => long9_any (hl.of hB)
  have HLG := Lib.hid hlg
  clear hlg
  unfold gv ic
  go_enter Tryz.func4, Tryz.ntmps4
  go_wp2_with fail
  obtain ⟨W1, hW1⟩ : ∃ W1, (w.alloc (.cells #[.int .i64 i, .int .i64 b, .int .i64 40] 56)).alloc (.cells #[.int .u8 x.k, .int .u16 x.l, .int .u32 x.s, .int .u16 x.d0, .int .u16 x.d1, .int .u16 x.d2, .int .u16 x.d3, .int .u16 x.n] 61) = W1 := ⟨_, rfl⟩
  have cg : W1.heap[w.heap.size]? = some (.cells #[.int .i64 i, .int .i64 b, .int .i64 40] 56 (0, 0)) := by rw [← hW1, hp_old _ _ (by simp), hp_new _ _ rfl]
  have cx : W1.heap[w.heap.size + 1]? = some (.cells #[.int .u8 x.k, .int .u16 x.l, .int .u32 x.s, .int .u16 x.d0, .int .u16 x.d1, .int .u16 x.d2, .int .u16 x.d3, .int .u16 x.n] 61 (0, 0)) := by rw [← hW1, hp_new _ _ (by simp)]
  have hB1 : Below w.heap.size w W1 := by rw [← hW1]; exact bal (bnew _ _) _
  simp only [hW1]
  clear hW1
  refine (HLG.out _ hB1).mono ?_
  rintro e w2 ⟨lb, rfl, hlb, h12⟩
  subst h12
  obtain ⟨bg, hbg⟩ : ∃ bg, w.heap.size = bg := ⟨_, rfl⟩
  obtain ⟨bx, hbx⟩ : ∃ bx, bg + 1 = bx := ⟨_, rfl⟩
  rw [hbg] at cg cx
  rw [hbx] at cx
  simp only [hbg, hbx]
  have HO : Hid (w.heap.size = bg ∧ bg + 1 = bx) := Lib.hid ⟨hbg, hbx⟩
  clear hbg hbx
  have HB := Lib.hid hB1
  have HG := Lib.hid cg
  have HX := Lib.hid cx
  clear hB1
  cases lb
  rotate_left
  · clear cg cx
    go_wp2_with fail
    refine (alive09_any _).mono ?_
    rintro e w3 ⟨rfl, hB3⟩
    have HB3 := Lib.hid (bt HB.out hB3)
    clear hB3
    go_wp2_with fail
    go_ret
    exact ⟨rfl, HB3.out⟩
  have HL80 := Lib.hid (hlb rfl)
  clear hlb
  have g0 := cl_of cg 0
  have g1 := cl_of cg 1
  have g2 := cl_of cg 2
  have q0 := cl_of cx 0
  have q1 := cl_of cx 1
  have q2 := cl_of cx 2
  have q3 := cl_of cx 3
  have q4 := cl_of cx 4
  have q5 := cl_of cx 5
  have q6 := cl_of cx 6
  have q7 := cl_of cx 7
  have lg := blk_lt cg
  have lx := blk_lt cx
  clear cg cx
  have e1 : decide (b > 60) = false := decide_eq_false (by omega)
  clear hb
  go_wp2_with fail
  refine (HSN.out _).mono ?_
  rintro e w5 ⟨rfl, hB5⟩
  have hBB := hB5
  have cg5 := bblk hBB HG.out
  have cx5 := bblk hBB HX.out
  have HB' := Lib.hid (bt HB.out hBB)
  clear HB HG HX g0 g1 g2 q0 q1 q2 q3 q4 q5 q6 q7 lg lx hBB hB5
  have HB := HB'
  clear HB'
  have HG := Lib.hid cg5
  have HX := Lib.hid cx5
  have g0 := cl_of cg5 0
  have g1 := cl_of cg5 1
  have g2 := cl_of cg5 2
  have q0 := cl_of cx5 0
  have q1 := cl_of cx5 1
  have q2 := cl_of cx5 2
  have q3 := cl_of cx5 3
  have q4 := cl_of cx5 4
  have q5 := cl_of cx5 5
  have q6 := cl_of cx5 6
  have q7 := cl_of cx5 7
  have lg := blk_lt cg5
  have lx := blk_lt cx5
  clear cg5 cx5
  go_wp2_with fail
  refine (HBN.out _).mono ?_
  rintro e w6 ⟨rfl, hB6⟩
  have hBB := bt (bnew w5 _) hB6
  have cg6 := bblk hBB HG.out
  have cx6 := bblk hBB HX.out
  have HB' := Lib.hid (bt HB.out hBB)
  clear HB HG HX g0 g1 g2 q0 q1 q2 q3 q4 q5 q6 q7 lg lx hBB hB6
  have HB := HB'
  clear HB'
  have HG := Lib.hid cg6
  have HX := Lib.hid cx6
  have g0 := cl_of cg6 0
  have g1 := cl_of cg6 1
  have g2 := cl_of cg6 2
  have q0 := cl_of cx6 0
  have q1 := cl_of cx6 1
  have q2 := cl_of cx6 2
  have q3 := cl_of cx6 3
  have q4 := cl_of cx6 4
  have q5 := cl_of cx6 5
  have q6 := cl_of cx6 6
  have q7 := cl_of cx6 7
  have lg := blk_lt cg6
  have lx := blk_lt cx6
  clear cg6 cx6
  go_wp2_with fail
  refine (HAN.out _).mono ?_
  rintro e w7 ⟨rfl, hB7⟩
  have hBB := bt (bnew w6 _) hB7
  have cg7 := bblk hBB HG.out
  have cx7 := bblk hBB HX.out
  have HB' := Lib.hid (bt HB.out hBB)
  clear HB HG HX g0 g1 g2 q0 q1 q2 q3 q4 q5 q6 q7 lg lx hBB hB7
  have HB := HB'
  clear HB'
  have HG := Lib.hid cg7
  have HX := Lib.hid cx7
  have g0 := cl_of cg7 0
  have g1 := cl_of cg7 1
  have g2 := cl_of cg7 2
  have q0 := cl_of cx7 0
  have q1 := cl_of cx7 1
  have q2 := cl_of cx7 2
  have q3 := cl_of cx7 3
  have q4 := cl_of cx7 4
  have q5 := cl_of cx7 5
  have q6 := cl_of cx7 6
  have q7 := cl_of cx7 7
  have lg := blk_lt cg7
  have lx := blk_lt cx7
  clear cg7 cx7
  go_wp2_with fail
  refine (HCN.out _).mono ?_
  rintro e w8 ⟨rfl, hB8⟩
  have hBB := hB8
  have cg8 := bblk hBB HG.out
  have cx8 := bblk hBB HX.out
  have HB' := Lib.hid (bt HB.out hBB)
  clear HB HG HX g0 g1 g2 q0 q1 q2 q3 q4 q5 q6 q7 lg lx hBB hB8
  have HB := HB'
  clear HB'
  have HG := Lib.hid cg8
  have HX := Lib.hid cx8
  have g0 := cl_of cg8 0
  have g1 := cl_of cg8 1
  have g2 := cl_of cg8 2
  have q0 := cl_of cx8 0
  have q1 := cl_of cx8 1
  have q2 := cl_of cx8 2
  have q3 := cl_of cx8 3
  have q4 := cl_of cx8 4
  have q5 := cl_of cx8 5
  have q6 := cl_of cx8 6
  have q7 := cl_of cx8 7
  have lg := blk_lt cg8
  have lx := blk_lt cx8
  clear cg8 cx8
  have HBA := Lib.hid (bal HB.out (.cells #[.int .u8 Ino.zero.k, .int .u16 Ino.zero.l, .int .u32 Ino.zero.s, .int .u16 Ino.zero.d0, .int .u16 Ino.zero.d1, .int .u16 Ino.zero.d2, .int .u16 Ino.zero.d3, .int .u16 Ino.zero.n] 61))
  go_wp2_with fail
  refine (HMK.out _ HBA.out).mono ?_
  rintro e w9 ⟨tb, p, rfl, X, jb, m, hT, hX, hjb, htb, hmm, hB9⟩
  have hBB := bt (bnew w8 _) hB9
  have hxg : X bg := hX bg (Nat.le_of_eq HO.out.1) (by have := blk_lt HG.out; simp; omega)
  have hxx : X bx := hX bx (by have := HO.out; omega) (by have := blk_lt HX.out; simp; omega)
  have HXX := Lib.hid (And.intro hxg hxx)
  have cg9 := bblk hBB HG.out
  have cx9 := bblk hBB HX.out
  have HT := Lib.hid hT
  clear HB HG HX g0 g1 g2 q0 q1 q2 q3 q4 q5 q6 q7 lg lx hBB hB9 hT hX hjb htb hmm HBA hxg hxx
  have HB := Lib.hid HT.out.j.dev.below
  have HG := Lib.hid cg9
  have HX := Lib.hid cx9
  have g0 := cl_of cg9 0
  have g1 := cl_of cg9 1
  have g2 := cl_of cg9 2
  have q0 := cl_of cx9 0
  have q1 := cl_of cx9 1
  have q2 := cl_of cx9 2
  have q3 := cl_of cx9 3
  have q4 := cl_of cx9 4
  have q5 := cl_of cx9 5
  have q6 := cl_of cx9 6
  have q7 := cl_of cx9 7
  have lg := blk_lt cg9
  have lx := blk_lt cx9
  clear cg9 cx9
  have hmay := fun (W' : World) (hB : Below w9.heap.size w9 W') => HT.out.of hB
  have HTT := Lib.hid hmay
  clear hmay
  go_wp2_with fail
  refine (HMAY.out _).mono ?_
  rintro e w10 ⟨rfl, hB10⟩
  have HT10 := Lib.hid (HTT.out _ hB10)
  have hBB := hB10
  have cg10 := bblk hBB HG.out
  have cx10 := bblk hBB HX.out
  have HB' := Lib.hid (bt HB.out hBB)
  clear HB HG HX g0 g1 g2 q0 q1 q2 q3 q4 q5 q6 q7 lg lx hBB hB10
  have HB := HB'
  clear HB'
  have HG := Lib.hid cg10
  have HX := Lib.hid cx10
  have g0 := cl_of cg10 0
  have g1 := cl_of cg10 1
  have g2 := cl_of cg10 2
  have q0 := cl_of cx10 0
  have q1 := cl_of cx10 1
  have q2 := cl_of cx10 2
  have q3 := cl_of cx10 3
  have q4 := cl_of cx10 4
  have q5 := cl_of cx10 5
  have q6 := cl_of cx10 6
  have q7 := cl_of cx10 7
  have lg := blk_lt cg10
  have lx := blk_lt cx10
  clear cg10 cx10
  go_wp2_with fail
  refine (HSEC.out _).mono ?_
  rintro e w11 ⟨rfl, hB11⟩
  have HT11 := Lib.hid (HT10.out.of hB11)
  have hBB := hB11
  have cg11 := bblk hBB HG.out
  have cx11 := bblk hBB HX.out
  have HB' := Lib.hid (bt HB.out hBB)
  clear HB HG HX g0 g1 g2 q0 q1 q2 q3 q4 q5 q6 q7 lg lx hBB hB11
  have HB := HB'
  clear HB'
  have HG := Lib.hid cg11
  have HX := Lib.hid cx11
  have g0 := cl_of cg11 0
  have g1 := cl_of cg11 1
  have g2 := cl_of cg11 2
  have q0 := cl_of cx11 0
  have q1 := cl_of cx11 1
  have q2 := cl_of cx11 2
  have q3 := cl_of cx11 3
  have q4 := cl_of cx11 4
  have q5 := cl_of cx11 5
  have q6 := cl_of cx11 6
  have q7 := cl_of cx11 7
  have lg := blk_lt cg11
  have lx := blk_lt cx11
  clear cg11 cx11
  go_wp2_with fail
  refine (blank9_any N (Nat.le_trans HN2.out (by decide)) _).mono ?_
  rintro e w12 ⟨rb, sb, rfl, hR, hB12, hrb, hsb⟩
  have hpl : Lp w (fun k => X k ∨ w11.heap.size ≤ k ∧ k < w12.heap.size) p jb N tb m rb sb [] x #[.int .i64 i, .int .i64 b, .int .i64 40] bg bx w12 :=
    ⟨⟨HT11.out.take hB12, hR.more (fun k h => .inr h), .inr ⟨hrb, hR.rt.lt⟩, .inr ⟨hsb, blk_lt hR.row⟩, Nat.le_trans HT11.out.j.dev.below.size hrb⟩, bblk hB12 HG.out, bblk hB12 HX.out, .inl HXX.out.1, .inl HXX.out.2⟩
  have HPL := Lib.hid hpl
  clear HB HG HX g0 g1 g2 q0 q1 q2 q3 q4 q5 q6 q7 lg lx hR hB12 hrb hsb hpl HT HTT HT10 HT11 HMAY HSN HBN HAN HCN HSEC HMK
  generalize (fun k => X k ∨ w11.heap.size ≤ k ∧ k < w12.heap.size) = X0 at *
  obtain ⟨⟨ao, cap, rfl, hcell⟩, hwf⟩ := HSL.out
  have HC := Lib.hid hcell
  have HW := Lib.hid hwf
  clear hcell hwf HSL HLG hl
  have hgx : bg ≠ bx := by have := HO.out; omega
  have hxg : bx ≠ bg := by omega
  go_wp2_with fail
  go_loopw [24, 25, 26] (fun v24 _ _ wr => ∃ (k : Nat) (x : Ino) (M : Wl) (X : Nat → Prop), k ≤ ls.length ∧ v24 = .int .i64 k ∧ Lp w X p jb N tb m rb sb M x #[.int .i64 i, .int .i64 b, .int .i64 40] bg bx wr ∧ Mo M ∧ x.Wf) (fun v24 _ _ _ => ls.length - (intOf v24).toNat)
  case atStart => exact ⟨0, x, [], X0, Nat.zero_le _, rfl, HPL.out, Mo.nil, HXW.out⟩
  case round =>
    clear HPL HXW
    obtain ⟨k, x, M, X, hk, rfl, hLp, hM, hx⟩ := hrel
    by_cases hlt : k < ls.length
    · obtain ⟨b0, off, rfl, hb0, hc⟩ := HC.out (by omega)
      obtain ⟨c0, c1, c2, c3⟩ := hc k hlt
      obtain ⟨-, -, hbwf, hsl⟩ := HW.out (ls.getD k st90) (by rw [List.getD_eq_getElem?_getD, List.getElem?_eq_getElem hlt]; exact List.getElem_mem hlt)
      generalize ls.getD k st90 = sp at *
      have hdo := fun (X2 : Nat → Prop) (Wz : World) (h2 : Lp w X2 p jb N tb m rb sb M x #[.int .i64 i, .int .i64 b, .int .i64 40] bg bx Wz) => does_any h2.pl hM HGN.out (Nat.le_trans HN2.out (by decide)) hx hbwf hsl
      unfold DoP gv ic at hdo
      have HDO := Lib.hid hdo
      have hsc : ∀ (X2 : Nat → Prop) (M2 : Wl) (Wz : World), Lp w X2 p jb N tb m rb sb M2 x #[.int .i64 i, .int .i64 b, .int .i64 40] bg bx Wz → (Wz.cell? ⟨bg, 0, none⟩ = some (.int .i64 i) ∧ Wz.cell? ⟨bg, 1, none⟩ = some (.int .i64 b) ∧ Wz.cell? ⟨bg, 2, none⟩ = some (.int .i64 40) ∧ Wz.cell? ⟨bx, 0, none⟩ = some (.int .u8 x.k) ∧ Wz.cell? ⟨bx, 1, none⟩ = some (.int .u16 x.l) ∧ Wz.cell? ⟨bx, 2, none⟩ = some (.int .u32 x.s) ∧ Wz.cell? ⟨bx, 3, none⟩ = some (.int .u16 x.d0) ∧ Wz.cell? ⟨bx, 4, none⟩ = some (.int .u16 x.d1) ∧ Wz.cell? ⟨bx, 5, none⟩ = some (.int .u16 x.d2) ∧ Wz.cell? ⟨bx, 6, none⟩ = some (.int .u16 x.d3) ∧ Wz.cell? ⟨bx, 7, none⟩ = some (.int .u16 x.n) ∧ Wz.cell? ⟨b0, off + k * 4, none⟩ = some (.int .i64 sp.op) ∧ Wz.cell? ⟨b0, off + k * 4 + 1, none⟩ = some (.int .i64 sp.page) ∧ Wz.cell? ⟨b0, off + k * 4 + 2, none⟩ = some (.int .u16 sp.b) ∧ Wz.cell? ⟨b0, off + k * 4 + 3, none⟩ = some (sp.lv)) := fun X2 M2 Wz h2 => by
        have hg := h2.g
        have hx := h2.x
        have hB := h2.pl.below
        exact ⟨cl_of hg 0, cl_of hg 1, cl_of hg 2, cl_of hx 0, cl_of hx 1, cl_of hx 2, cl_of hx 3, cl_of hx 4, cl_of hx 5, cl_of hx 6, cl_of hx 7, (hB.cell (p := ⟨b0, off + k * 4, none⟩) hb0).trans c0, (hB.cell (p := ⟨b0, off + k * 4 + 1, none⟩) hb0).trans c1, (hB.cell (p := ⟨b0, off + k * 4 + 2, none⟩) hb0).trans c2, (hB.cell (p := ⟨b0, off + k * 4 + 3, none⟩) hb0).trans c3⟩
      have HSC := Lib.hid hsc
      have HL := Lib.hid hLp
      have HD := Lib.hid (hLp.of (Below.refl _ _).drew)
      have hq := hsc _ _ _ hLp
      clear hdo hsc hLp hc c0 c1 c2 c3 hbwf hsl hM hx
      go_wp2_with fail
      apply region_midY (R := fun nb (y : Ino) W' => StR w p jb N tb m rb sb x #[.int .i64 i, .int .i64 b, .int .i64 40] bg bx nb y W')
      case h =>
        refine wp_region_held_drew (S := (fun Wq => (Wq.cell? ⟨bg, 0, none⟩ = some (.int .i64 i) ∧ Wq.cell? ⟨bg, 1, none⟩ = some (.int .i64 b) ∧ Wq.cell? ⟨bg, 2, none⟩ = some (.int .i64 40) ∧ Wq.cell? ⟨bx, 0, none⟩ = some (.int .u8 x.k) ∧ Wq.cell? ⟨bx, 1, none⟩ = some (.int .u16 x.l) ∧ Wq.cell? ⟨bx, 2, none⟩ = some (.int .u32 x.s) ∧ Wq.cell? ⟨bx, 3, none⟩ = some (.int .u16 x.d0) ∧ Wq.cell? ⟨bx, 4, none⟩ = some (.int .u16 x.d1) ∧ Wq.cell? ⟨bx, 5, none⟩ = some (.int .u16 x.d2) ∧ Wq.cell? ⟨bx, 6, none⟩ = some (.int .u16 x.d3) ∧ Wq.cell? ⟨bx, 7, none⟩ = some (.int .u16 x.n) ∧ Wq.cell? ⟨b0, off + k * 4, none⟩ = some (.int .i64 sp.op) ∧ Wq.cell? ⟨b0, off + k * 4 + 1, none⟩ = some (.int .i64 sp.page) ∧ Wq.cell? ⟨b0, off + k * 4 + 2, none⟩ = some (.int .u16 sp.b) ∧ Wq.cell? ⟨b0, off + k * 4 + 3, none⟩ = some (sp.lv)))) (by kernel_rfl) (by exact hq) (fun hHeld => ?_)
        refine wpAnyH_now (i := 0) (v := ?v0) rfl (by kernel_rfl) (by kernel_rfl) (by kernel_rfl) (fun _ _ _ h => h) (by rfl) ?h0 (by assumption) ?_
        case h0 => ((intro w hSw; (try dsimp only at hSw); go_simp); try with_reducible rfl)
        (try simp only [Act.put, List.setIfInBounds_toArray, List.set_cons_succ, List.set_cons_zero])
        refine wpAnyH_now (i := 1) (v := ?v1) rfl (by kernel_rfl) (by kernel_rfl) (by kernel_rfl) (fun _ _ _ h => h) (by rfl) ?h1 (by assumption) ?_
        case h1 => ((intro w hSw; (try dsimp only at hSw); go_simp); try with_reducible rfl)
        (try simp only [Act.put, List.setIfInBounds_toArray, List.set_cons_succ, List.set_cons_zero])
        refine wpAnyH_now (i := 2) (v := ?v2) rfl (by kernel_rfl) (by kernel_rfl) (by kernel_rfl) (fun _ _ _ h => h) (by rfl) ?h2 (by assumption) ?_
        case h2 => ((intro w hSw; (try dsimp only at hSw); go_simp); try with_reducible rfl)
        (try simp only [Act.put, List.setIfInBounds_toArray, List.set_cons_succ, List.set_cons_zero])
        refine wpAnyH_now (i := 3) (v := ?v3) rfl (by kernel_rfl) (by kernel_rfl) (by kernel_rfl) (fun _ _ _ h => h) (by rfl) ?h3 (by assumption) ?_
        case h3 => ((intro w hSw; (try dsimp only at hSw); go_simp); try with_reducible rfl)
        (try simp only [Act.put, List.setIfInBounds_toArray, List.set_cons_succ, List.set_cons_zero])
        refine wpAnyH_now (i := 4) (v := ?v4) rfl (by kernel_rfl) (by kernel_rfl) (by kernel_rfl) (fun _ _ _ h => h) (by rfl) ?h4 (by assumption) ?_
        case h4 => ((intro w hSw; (try dsimp only at hSw); go_simp); try with_reducible rfl)
        (try simp only [Act.put, List.setIfInBounds_toArray, List.set_cons_succ, List.set_cons_zero])
        refine wpAnyH_now (i := 5) (v := ?v5) rfl (by kernel_rfl) (by kernel_rfl) (by kernel_rfl) (fun _ _ _ h => h) (by rfl) ?h5 (by assumption) ?_
        case h5 => ((intro w hSw; (try dsimp only at hSw); go_simp); try with_reducible rfl)
        (try simp only [Act.put, List.setIfInBounds_toArray, List.set_cons_succ, List.set_cons_zero])
        refine wpAnyH_now (i := 6) (v := ?v6) rfl (by kernel_rfl) (by kernel_rfl) (by kernel_rfl) (fun _ _ _ h => h) (by rfl) ?h6 (by assumption) ?_
        case h6 => ((intro w hSw; (try dsimp only at hSw); go_simp); try with_reducible rfl)
        (try simp only [Act.put, List.setIfInBounds_toArray, List.set_cons_succ, List.set_cons_zero])
        refine wpAnyH_now (i := 7) (v := ?v7) rfl (by kernel_rfl) (by kernel_rfl) (by kernel_rfl) (fun _ _ _ h => h) (by rfl) ?h7 (by assumption) ?_
        case h7 => ((intro w hSw; (try dsimp only at hSw); go_simp); try with_reducible rfl)
        (try simp only [Act.put, List.setIfInBounds_toArray, List.set_cons_succ, List.set_cons_zero])
        refine wpAnyH_two (i := 8) (j := 12) (by kernel_rfl) rfl rfl (by rfl) (by rfl) (fun K hK => ?_) (fun K hK => ?_)
        · go_simp
          refine (HDO.out _ _ HD.out).mono ?_
          rintro e w5 ⟨y, M5, X5, rfl, h5, hM5, hy5, hx5, k5⟩
          refine hK.out _ _ (by exact HSC.out _ _ _ (HD.out.step h5 hx5 k5)) (fun hHeld => ?_)
          clear hK K
          (try simp only [Act.put, List.setIfInBounds_toArray, List.set_cons_succ, List.set_cons_zero])
          have HL5 := Lib.hid (HD.out.step h5 hx5 k5)
          obtain ⟨nbv, hnb⟩ : ∃ k, w5.heap.size = k := ⟨_, rfl⟩
          have hst := stA HD.out h5 hM5 hy5 hx5 k5 hnb
          have HST := Lib.hid hst
          have HNB := Lib.hid hnb
          clear h5 hM5 hy5 hx5 k5 hst hnb
          refine wpAnyH_now (i := 9) (v := ?v8) rfl (by kernel_rfl) (by kernel_rfl) (by kernel_rfl) (fun _ _ _ h => h) (by rfl) ?h8 (by assumption) ?_
          case h8 => ((intro w hSw; (try dsimp only at hSw); go_simp); try with_reducible rfl)
          (try simp only [Act.put, List.setIfInBounds_toArray, List.set_cons_succ, List.set_cons_zero])
          refine wpAnyH_now (i := 10) (v := ?v9) rfl (by kernel_rfl) (by kernel_rfl) (by kernel_rfl) (fun _ _ _ h => h) (by rfl) ?h9 (by assumption) ?_
          case h9 => ((intro w hSw; (try dsimp only at hSw); go_simp); try with_reducible rfl)
          (try simp only [Act.put, List.setIfInBounds_toArray, List.set_cons_succ, List.set_cons_zero])
          refine wpAnyH_now (i := 11) (v := ?v10) rfl (by kernel_rfl) (by kernel_rfl) (by kernel_rfl) (fun _ _ _ h => h) (by rfl) ?h10 (by assumption) ?_
          case h10 => ((intro w hSw; (try dsimp only at hSw); go_simp); try with_reducible rfl)
          (try simp only [Act.put, List.setIfInBounds_toArray, List.set_cons_succ, List.set_cons_zero])
          refine wpAnyH_only (i := 12) (by kernel_rfl) rfl (by rfl) (fun K hK => ?_)
          go_simp
          refine hK.out _ _ (by exact HSC.out _ _ _ (HL5.out.of (bnew _ _))) (fun hHeld => ?_)
          clear hK K
          (try simp only [Act.put, List.setIfInBounds_toArray, List.set_cons_succ, List.set_cons_zero])
          have hnw := hp_new w5 (.cells (ic Ino.zero) 61) rfl
          have zz := hnw
          unfold ic Ino.zero at zz
          have n0 := cl_of zz 0
          have n1 := cl_of zz 1
          have n2 := cl_of zz 2
          have n3 := cl_of zz 3
          have n4 := cl_of zz 4
          have n5 := cl_of zz 5
          have n6 := cl_of zz 6
          have n7 := cl_of zz 7
          have nz := fz_of zz
          clear zz
          rw [HNB.out] at n0 n1 n2 n3 n4 n5 n6 n7 nz
          clear hnw
          (try rw [HNB.out])
          have hfs := (fun (M' : Wl) (X' : Nat → Prop) (h : Lp w X' p jb N tb m rb sb M' x #[.int .i64 i, .int .i64 b, .int .i64 40] bg bx (put8 (w5.alloc (.cells (ic Ino.zero) 61)) nbv y)) => HSC.out _ _ _ h)
          refine wpAnyH_only (i := 13) (by kernel_rfl) rfl (by rfl) (fun K hK => ?_)
          go_simp
          refine hK.out _ _ (by exact HST.out.elim (fun M' h => h.elim (fun X' h => hfs M' X' h.1))) (fun hHeld => ?_)
          clear hK K
          (try simp only [Act.put, List.setIfInBounds_toArray, List.set_cons_succ, List.set_cons_zero])
          refine wpAnyH_now (i := 14) (v := ?v11) rfl (by kernel_rfl) (by kernel_rfl) (by kernel_rfl) (fun _ _ _ h => h) (by rfl) ?h11 (by assumption) ?_
          case h11 => ((intro w hSw; (try dsimp only at hSw); go_simp); try with_reducible rfl)
          (try simp only [Act.put, List.setIfInBounds_toArray, List.set_cons_succ, List.set_cons_zero])
          refine wpAnyH_done (by kernel_rfl) ?_ _
          refine NoPanic.normal ?_
          exact ⟨rfl, nbv, y, rfl, HST.out⟩
        · go_simp
          refine hK.out _ _ (by exact HSC.out _ _ _ (HD.out.of (bnew _ _))) (fun hHeld => ?_)
          clear hK K
          (try simp only [Act.put, List.setIfInBounds_toArray, List.set_cons_succ, List.set_cons_zero])
          obtain ⟨WB, hWB⟩ : ∃ WB, (wr.alloc (.cells #[.int .u8 0, .int .u16 0, .int .u32 0, .int .u16 0, .int .u16 0, .int .u16 0, .int .u16 0, .int .u16 0] 61)).drew = WB := ⟨_, rfl⟩
          have hBB : Below wr.heap.size wr WB := by rw [← hWB]; exact (bnew _ _).drew
          have hnn : WB.heap[wr.heap.size]? = some (.cells (ic Ino.zero) 61 (0, 0)) := by rw [← hWB]; exact hp_new wr _ rfl
          have HLB := Lib.hid (HL.out.take hBB)
          simp only [hWB] at hHeld ⊢
          obtain ⟨nbv, hnb⟩ : ∃ k, wr.heap.size = k := ⟨_, rfl⟩
          rw [hnb] at hnn
          have HNB := Lib.hid (And.intro hBB (And.intro hnn hnb))
          (try simp only [hnb])
          clear hWB hnb hBB hnn
          refine wpAnyH_only (i := 8) (by kernel_rfl) rfl (by rfl) (fun K hK => ?_)
          go_simp
          refine (HDO.out _ _ HLB.out).mono ?_
          rintro e w5 ⟨y, M5, X5, rfl, h5, hM5, hy5, hx5, k5⟩
          refine hK.out _ _ (by exact HSC.out _ _ _ (HLB.out.step h5 hx5 k5)) (fun hHeld => ?_)
          clear hK K
          (try simp only [Act.put, List.setIfInBounds_toArray, List.set_cons_succ, List.set_cons_zero])
          obtain ⟨hn5, hst⟩ := stB HL.out HNB.out.1 HNB.out.2.1 HNB.out.2.2 h5 hM5 hy5 hx5 k5
          have HST := Lib.hid hst
          clear h5 hM5 hy5 hx5 k5 hst
          refine wpAnyH_now (i := 9) (v := ?v12) rfl (by kernel_rfl) (by kernel_rfl) (by kernel_rfl) (fun _ _ _ h => h) (by rfl) ?h12 (by assumption) ?_
          case h12 => ((intro w hSw; (try dsimp only at hSw); go_simp); try with_reducible rfl)
          (try simp only [Act.put, List.setIfInBounds_toArray, List.set_cons_succ, List.set_cons_zero])
          refine wpAnyH_now (i := 10) (v := ?v13) rfl (by kernel_rfl) (by kernel_rfl) (by kernel_rfl) (fun _ _ _ h => h) (by rfl) ?h13 (by assumption) ?_
          case h13 => ((intro w hSw; (try dsimp only at hSw); go_simp); try with_reducible rfl)
          (try simp only [Act.put, List.setIfInBounds_toArray, List.set_cons_succ, List.set_cons_zero])
          refine wpAnyH_now (i := 11) (v := ?v14) rfl (by kernel_rfl) (by kernel_rfl) (by kernel_rfl) (fun _ _ _ h => h) (by rfl) ?h14 (by assumption) ?_
          case h14 => ((intro w hSw; (try dsimp only at hSw); go_simp); try with_reducible rfl)
          (try simp only [Act.put, List.setIfInBounds_toArray, List.set_cons_succ, List.set_cons_zero])
          have zz := hn5
          unfold ic Ino.zero at zz
          have n0 := cl_of zz 0
          have n1 := cl_of zz 1
          have n2 := cl_of zz 2
          have n3 := cl_of zz 3
          have n4 := cl_of zz 4
          have n5 := cl_of zz 5
          have n6 := cl_of zz 6
          have n7 := cl_of zz 7
          have nz := fz_of zz
          clear zz
          have hfs := (fun (M' : Wl) (X' : Nat → Prop) (h : Lp w X' p jb N tb m rb sb M' x #[.int .i64 i, .int .i64 b, .int .i64 40] bg bx (put8 w5 nbv y)) => HSC.out _ _ _ h)
          refine wpAnyH_only (i := 13) (by kernel_rfl) rfl (by rfl) (fun K hK => ?_)
          go_simp
          refine hK.out _ _ (by exact HST.out.elim (fun M' h => h.elim (fun X' h => hfs M' X' h.1))) (fun hHeld => ?_)
          clear hK K
          (try simp only [Act.put, List.setIfInBounds_toArray, List.set_cons_succ, List.set_cons_zero])
          refine wpAnyH_now (i := 14) (v := ?v15) rfl (by kernel_rfl) (by kernel_rfl) (by kernel_rfl) (fun _ _ _ h => h) (by rfl) ?h15 (by assumption) ?_
          case h15 => ((intro w hSw; (try dsimp only at hSw); go_simp); try with_reducible rfl)
          (try simp only [Act.put, List.setIfInBounds_toArray, List.set_cons_succ, List.set_cons_zero])
          refine wpAnyH_done (by kernel_rfl) ?_ _
          refine NoPanic.normal ?_
          exact ⟨rfl, nbv, y, rfl, HST.out⟩
      case hc =>
        rintro nb y w6 ⟨M6, X6, hL6, hM6, hy6, hn6, hn1, hn2⟩
        have HY6 := Lib.hid (And.intro hM6 hy6)
        have HL6 := Lib.hid hL6
        have HN6 := Lib.hid hn6
        have hnd := fun W => needs_any x sp.page W
        unfold ic at hnd
        have HND := Lib.hid hnd
        have hq6 := (fun (h : (w6.cell? ⟨bg, 0, none⟩ = some (.int .i64 i) ∧ w6.cell? ⟨bg, 1, none⟩ = some (.int .i64 b) ∧ w6.cell? ⟨bg, 2, none⟩ = some (.int .i64 40) ∧ w6.cell? ⟨bx, 0, none⟩ = some (.int .u8 x.k) ∧ w6.cell? ⟨bx, 1, none⟩ = some (.int .u16 x.l) ∧ w6.cell? ⟨bx, 2, none⟩ = some (.int .u32 x.s) ∧ w6.cell? ⟨bx, 3, none⟩ = some (.int .u16 x.d0) ∧ w6.cell? ⟨bx, 4, none⟩ = some (.int .u16 x.d1) ∧ w6.cell? ⟨bx, 5, none⟩ = some (.int .u16 x.d2) ∧ w6.cell? ⟨bx, 6, none⟩ = some (.int .u16 x.d3) ∧ w6.cell? ⟨bx, 7, none⟩ = some (.int .u16 x.n) ∧ w6.cell? ⟨b0, off + k * 4, none⟩ = some (.int .i64 sp.op) ∧ w6.cell? ⟨b0, off + k * 4 + 1, none⟩ = some (.int .i64 sp.page) ∧ w6.cell? ⟨b0, off + k * 4 + 2, none⟩ = some (.int .u16 sp.b) ∧ w6.cell? ⟨b0, off + k * 4 + 3, none⟩ = some (sp.lv))) => show (w6.cell? ⟨bx, 0, none⟩ = some (.int .u8 x.k) ∧ w6.cell? ⟨bx, 1, none⟩ = some (.int .u16 x.l) ∧ w6.cell? ⟨bx, 2, none⟩ = some (.int .u32 x.s) ∧ w6.cell? ⟨bx, 3, none⟩ = some (.int .u16 x.d0) ∧ w6.cell? ⟨bx, 4, none⟩ = some (.int .u16 x.d1) ∧ w6.cell? ⟨bx, 5, none⟩ = some (.int .u16 x.d2) ∧ w6.cell? ⟨bx, 6, none⟩ = some (.int .u16 x.d3) ∧ w6.cell? ⟨bx, 7, none⟩ = some (.int .u16 x.n) ∧ w6.cell? ⟨b0, off + k * 4 + 1, none⟩ = some (.int .i64 sp.page)) from ⟨h.2.2.2.1, h.2.2.2.2.1, h.2.2.2.2.2.1, h.2.2.2.2.2.2.1, h.2.2.2.2.2.2.2.1, h.2.2.2.2.2.2.2.2.1, h.2.2.2.2.2.2.2.2.2.1, h.2.2.2.2.2.2.2.2.2.2.1, h.2.2.2.2.2.2.2.2.2.2.2.2.1⟩) (HSC.out _ _ _ hL6)
        have hkeep : ∀ Wz, Below w6.heap.size w6 Wz → (Wz.cell? ⟨bx, 0, none⟩ = some (.int .u8 x.k) ∧ Wz.cell? ⟨bx, 1, none⟩ = some (.int .u16 x.l) ∧ Wz.cell? ⟨bx, 2, none⟩ = some (.int .u32 x.s) ∧ Wz.cell? ⟨bx, 3, none⟩ = some (.int .u16 x.d0) ∧ Wz.cell? ⟨bx, 4, none⟩ = some (.int .u16 x.d1) ∧ Wz.cell? ⟨bx, 5, none⟩ = some (.int .u16 x.d2) ∧ Wz.cell? ⟨bx, 6, none⟩ = some (.int .u16 x.d3) ∧ Wz.cell? ⟨bx, 7, none⟩ = some (.int .u16 x.n) ∧ Wz.cell? ⟨b0, off + k * 4 + 1, none⟩ = some (.int .i64 sp.page)) := fun Wz hB => by
          have h := HSC.out _ _ _ (HL6.out.of hB)
          exact ⟨h.2.2.2.1, h.2.2.2.2.1, h.2.2.2.2.2.1, h.2.2.2.2.2.2.1, h.2.2.2.2.2.2.2.1, h.2.2.2.2.2.2.2.2.1, h.2.2.2.2.2.2.2.2.2.1, h.2.2.2.2.2.2.2.2.2.2.1, h.2.2.2.2.2.2.2.2.2.2.2.2.1⟩
        have HKP := Lib.hid hkeep
        clear hM6 hy6 hL6 hn6 hnd hkeep hq HDO HD HL
        go_wp2_with fail
        by_cases p4 : sp.page < 4
        · have hnd : needs x sp.page = false := decide_eq_false (fun h => by omega)
          have d1 : decide (sp.page ≥ 4) = false := decide_eq_false (by omega)
          clear p4
          apply region_mid (R := fun _ W' => Below w6.heap.size w6 W')
          case h =>
            refine wp_region_held_drew (S := (fun Wq => (Wq.cell? ⟨bx, 0, none⟩ = some (.int .u8 x.k) ∧ Wq.cell? ⟨bx, 1, none⟩ = some (.int .u16 x.l) ∧ Wq.cell? ⟨bx, 2, none⟩ = some (.int .u32 x.s) ∧ Wq.cell? ⟨bx, 3, none⟩ = some (.int .u16 x.d0) ∧ Wq.cell? ⟨bx, 4, none⟩ = some (.int .u16 x.d1) ∧ Wq.cell? ⟨bx, 5, none⟩ = some (.int .u16 x.d2) ∧ Wq.cell? ⟨bx, 6, none⟩ = some (.int .u16 x.d3) ∧ Wq.cell? ⟨bx, 7, none⟩ = some (.int .u16 x.n) ∧ Wq.cell? ⟨b0, off + k * 4 + 1, none⟩ = some (.int .i64 sp.page)))) (by kernel_rfl) (by exact hq6) (fun hHeld => ?_)
            refine wpAnyH_now (i := 0) (v := ?v16) rfl (by kernel_rfl) (by kernel_rfl) (by kernel_rfl) (fun _ _ _ h => h) (by rfl) ?h16 (by assumption) ?_
            case h16 => ((intro w hSw; (try dsimp only at hSw); go_simp); try with_reducible rfl)
            (try simp only [Act.put, List.setIfInBounds_toArray, List.set_cons_succ, List.set_cons_zero])
            refine wpAnyH_now (i := 1) (v := ?v17) rfl (by kernel_rfl) (by kernel_rfl) (by kernel_rfl) (fun _ _ _ h => h) (by rfl) ?h17 (by assumption) ?_
            case h17 => ((intro w hSw; (try dsimp only at hSw); go_simp); try with_reducible rfl)
            (try simp only [Act.put, List.setIfInBounds_toArray, List.set_cons_succ, List.set_cons_zero])
            refine wpAnyH_now (i := 2) (v := ?v18) rfl (by kernel_rfl) (by kernel_rfl) (by kernel_rfl) (fun _ _ _ h => h) (by rfl) ?h18 (by assumption) ?_
            case h18 => ((intro w hSw; (try dsimp only at hSw); go_simp); try with_reducible rfl)
            (try simp only [Act.put, List.setIfInBounds_toArray, List.set_cons_succ, List.set_cons_zero])
            refine wpAnyH_now (i := 3) (v := ?v19) rfl (by kernel_rfl) (by kernel_rfl) (by kernel_rfl) (fun _ _ _ h => h) (by rfl) ?h19 (by assumption) ?_
            case h19 => ((intro w hSw; (try dsimp only at hSw); go_simp); try with_reducible rfl)
            (try simp only [Act.put, List.setIfInBounds_toArray, List.set_cons_succ, List.set_cons_zero])
            refine wpAnyH_now (i := 4) (v := ?v20) rfl (by kernel_rfl) (by kernel_rfl) (by kernel_rfl) (fun _ _ _ h => h) (by rfl) ?h20 (by assumption) ?_
            case h20 => ((intro w hSw; (try dsimp only at hSw); go_simp); try with_reducible rfl)
            (try simp only [Act.put, List.setIfInBounds_toArray, List.set_cons_succ, List.set_cons_zero])
            refine wpAnyH_now (i := 5) (v := ?v21) rfl (by kernel_rfl) (by kernel_rfl) (by kernel_rfl) (fun _ _ _ h => h) (by rfl) ?h21 (by assumption) ?_
            case h21 => ((intro w hSw; (try dsimp only at hSw); go_simp); try with_reducible rfl)
            (try simp only [Act.put, List.setIfInBounds_toArray, List.set_cons_succ, List.set_cons_zero])
            refine wpAnyH_now (i := 6) (v := ?v22) rfl (by kernel_rfl) (by kernel_rfl) (by kernel_rfl) (fun _ _ _ h => h) (by rfl) ?h22 (by assumption) ?_
            case h22 => ((intro w hSw; (try dsimp only at hSw); go_simp); try with_reducible rfl)
            (try simp only [Act.put, List.setIfInBounds_toArray, List.set_cons_succ, List.set_cons_zero])
            refine wpAnyH_now (i := 7) (v := ?v23) rfl (by kernel_rfl) (by kernel_rfl) (by kernel_rfl) (fun _ _ _ h => h) (by rfl) ?h23 (by assumption) ?_
            case h23 => ((intro w hSw; (try dsimp only at hSw); go_simp); try with_reducible rfl)
            (try simp only [Act.put, List.setIfInBounds_toArray, List.set_cons_succ, List.set_cons_zero])
            refine wpAnyH_now (i := 8) (v := ?v24) rfl (by kernel_rfl) (by kernel_rfl) (by kernel_rfl) (fun _ _ _ h => h) (by rfl) ?h24 (by assumption) ?_
            case h24 => ((intro w hSw; (try dsimp only at hSw); go_simp); try with_reducible rfl)
            (try simp only [Act.put, List.setIfInBounds_toArray, List.set_cons_succ, List.set_cons_zero])
            refine wpAnyH_now (i := 10) (v := ?v25) rfl (by kernel_rfl) (by kernel_rfl) (by kernel_rfl) (fun _ _ _ h => h) (by rfl) ?h25 (by assumption) ?_
            case h25 => ((intro w hSw; (try dsimp only at hSw); go_simp); try with_reducible rfl)
            (try simp only [Act.put, List.setIfInBounds_toArray, List.set_cons_succ, List.set_cons_zero])
            refine wpAnyH_now (i := 11) (v := ?v26) rfl (by kernel_rfl) (by kernel_rfl) (by kernel_rfl) (fun _ _ _ h => h) (by rfl) ?h26 (by assumption) ?_
            case h26 => ((intro w hSw; (try dsimp only at hSw); go_simp); try with_reducible rfl)
            (try simp only [Act.put, List.setIfInBounds_toArray, List.set_cons_succ, List.set_cons_zero])
            refine wpAnyH_now (i := 12) (v := ?v27) rfl (by kernel_rfl) (by kernel_rfl) (by kernel_rfl) (fun _ _ _ h => h) (by rfl) ?h27 (by assumption) ?_
            case h27 => ((intro w hSw; (try dsimp only at hSw); go_simp); try with_reducible rfl)
            (try simp only [Act.put, List.setIfInBounds_toArray, List.set_cons_succ, List.set_cons_zero])
            refine wpAnyH_now (i := 13) (v := ?v28) rfl (by kernel_rfl) (by kernel_rfl) (by kernel_rfl) (fun _ _ _ h => h) (by rfl) ?h28 (by assumption) ?_
            case h28 => ((intro w hSw; (try dsimp only at hSw); go_simp); try with_reducible rfl)
            (try simp only [Act.put, List.setIfInBounds_toArray, List.set_cons_succ, List.set_cons_zero])
            refine wpAnyH_now (i := 14) (v := ?v29) rfl (by kernel_rfl) (by kernel_rfl) (by kernel_rfl) (fun _ _ _ h => h) (by rfl) ?h29 (by assumption) ?_
            case h29 => ((intro w hSw; (try dsimp only at hSw); go_simp); try with_reducible rfl)
            (try simp only [Act.put, List.setIfInBounds_toArray, List.set_cons_succ, List.set_cons_zero])
            refine wpAnyH_now (i := 15) (v := ?v30) rfl (by kernel_rfl) (by kernel_rfl) (by kernel_rfl) (fun _ _ _ h => h) (by rfl) ?h30 (by assumption) ?_
            case h30 => ((intro w hSw; (try dsimp only at hSw); go_simp); try with_reducible rfl)
            (try simp only [Act.put, List.setIfInBounds_toArray, List.set_cons_succ, List.set_cons_zero])
            refine wpAnyH_only (i := 9) (by kernel_rfl) rfl (by rfl) (fun K hK => ?_)
            go_simp
            refine (HND.out _).mono ?_
            rintro e w7 ⟨rfl, hB7⟩
            rw [hnd] 
            refine hK.out _ _ (by exact HKP.out _ (bt (Below.refl _ w6).drew hB7)) (fun hHeld => ?_)
            clear hK K
            (try simp only [Act.put, List.setIfInBounds_toArray, List.set_cons_succ, List.set_cons_zero])
            refine wpAnyH_now (i := 16) (v := ?v31) rfl (by kernel_rfl) (by kernel_rfl) (by kernel_rfl) (fun _ _ _ h => h) (by rfl) ?h31 (by assumption) ?_
            case h31 => ((intro w hSw; (try dsimp only at hSw); go_simp); try with_reducible rfl)
            (try simp only [Act.put, List.setIfInBounds_toArray, List.set_cons_succ, List.set_cons_zero])
            refine wpAnyH_skip (i := 17) rfl (by kernel_rfl) (by kernel_rfl) (by kernel_rfl) (fun _ _ _ h => h) (by rfl) (by assumption) ?_
            (try simp only [Act.put, List.setIfInBounds_toArray, List.set_cons_succ, List.set_cons_zero])
            refine wpAnyH_skip (i := 18) rfl (by kernel_rfl) (by kernel_rfl) (by kernel_rfl) (fun _ _ _ h => h) (by rfl) (by assumption) ?_
            (try simp only [Act.put, List.setIfInBounds_toArray, List.set_cons_succ, List.set_cons_zero])
            refine wpAnyH_skip (i := 19) rfl (by kernel_rfl) (by kernel_rfl) (by kernel_rfl) (fun _ _ _ h => h) (by rfl) (by assumption) ?_
            (try simp only [Act.put, List.setIfInBounds_toArray, List.set_cons_succ, List.set_cons_zero])
            refine wpAnyH_skip (i := 20) rfl (by kernel_rfl) (by kernel_rfl) (by kernel_rfl) (fun _ _ _ h => h) (by rfl) (by assumption) ?_
            (try simp only [Act.put, List.setIfInBounds_toArray, List.set_cons_succ, List.set_cons_zero])
            refine wpAnyH_skip (i := 21) rfl (by kernel_rfl) (by kernel_rfl) (by kernel_rfl) (fun _ _ _ h => h) (by rfl) (by assumption) ?_
            (try simp only [Act.put, List.setIfInBounds_toArray, List.set_cons_succ, List.set_cons_zero])
            refine wpAnyH_skip (i := 22) rfl (by kernel_rfl) (by kernel_rfl) (by kernel_rfl) (fun _ _ _ h => h) (by rfl) (by assumption) ?_
            (try simp only [Act.put, List.setIfInBounds_toArray, List.set_cons_succ, List.set_cons_zero])
            refine wpAnyH_now (i := 23) (v := ?v32) rfl (by kernel_rfl) (by kernel_rfl) (by kernel_rfl) (fun _ _ _ h => h) (by rfl) ?h32 (by assumption) ?_
            case h32 => ((intro w hSw; (try dsimp only at hSw); go_simp); try with_reducible rfl)
            (try simp only [Act.put, List.setIfInBounds_toArray, List.set_cons_succ, List.set_cons_zero])
            refine wpAnyH_now (i := 24) (v := ?v33) rfl (by kernel_rfl) (by kernel_rfl) (by kernel_rfl) (fun _ _ _ h => h) (by rfl) ?h33 (by assumption) ?_
            case h33 => ((intro w hSw; (try dsimp only at hSw); go_simp); try with_reducible rfl)
            (try simp only [Act.put, List.setIfInBounds_toArray, List.set_cons_succ, List.set_cons_zero])
            refine wpAnyH_skip (i := 25) rfl (by kernel_rfl) (by kernel_rfl) (by kernel_rfl) (fun _ _ _ h => h) (by rfl) (by assumption) ?_
            (try simp only [Act.put, List.setIfInBounds_toArray, List.set_cons_succ, List.set_cons_zero])
            refine wpAnyH_skip (i := 26) rfl (by kernel_rfl) (by kernel_rfl) (by kernel_rfl) (fun _ _ _ h => h) (by rfl) (by assumption) ?_
            (try simp only [Act.put, List.setIfInBounds_toArray, List.set_cons_succ, List.set_cons_zero])
            refine wpAnyH_skip (i := 27) rfl (by kernel_rfl) (by kernel_rfl) (by kernel_rfl) (fun _ _ _ h => h) (by rfl) (by assumption) ?_
            (try simp only [Act.put, List.setIfInBounds_toArray, List.set_cons_succ, List.set_cons_zero])
            refine wpAnyH_now (i := 28) (v := ?v34) rfl (by kernel_rfl) (by kernel_rfl) (by kernel_rfl) (fun _ _ _ h => h) (by rfl) ?h34 (by assumption) ?_
            case h34 => ((intro w hSw; (try dsimp only at hSw); go_simp); try with_reducible rfl)
            (try simp only [Act.put, List.setIfInBounds_toArray, List.set_cons_succ, List.set_cons_zero])
            refine wpAnyH_now (i := 29) (v := ?v35) rfl (by kernel_rfl) (by kernel_rfl) (by kernel_rfl) (fun _ _ _ h => h) (by rfl) ?h35 (by assumption) ?_
            case h35 => ((intro w hSw; (try dsimp only at hSw); go_simp); try with_reducible rfl)
            (try simp only [Act.put, List.setIfInBounds_toArray, List.set_cons_succ, List.set_cons_zero])
            refine wpAnyH_now (i := 30) (v := ?v36) rfl (by kernel_rfl) (by kernel_rfl) (by kernel_rfl) (fun _ _ _ h => h) (by rfl) ?h36 (by assumption) ?_
            case h36 => ((intro w hSw; (try dsimp only at hSw); go_simp); try with_reducible rfl)
            (try simp only [Act.put, List.setIfInBounds_toArray, List.set_cons_succ, List.set_cons_zero])
            refine wpAnyH_done (by kernel_rfl) ?_ _
            refine NoPanic.normal ?_
            obtain ⟨nv, -⟩ : ∃ nv : Nat, nv = 0 := ⟨0, rfl⟩
            exact ⟨rfl, nv, rfl, bt (Below.refl _ w6).drew hB7⟩
          case hc =>
            rintro nbx w7 hB7
            have hL7 := HL6.out.of hB7
            have cn7 := bblk hB7 HN6.out
            have cx7 := hL7.x
            have h9 := hL7.turn (by have := HO.out; omega) hgx y
            have H9 := Lib.hid h9
            unfold put8 at H9
            unfold ic at cn7 cx7
            have y0 := cl_of cn7 0
            have y1 := cl_of cn7 1
            have y2 := cl_of cn7 2
            have y3 := cl_of cn7 3
            have y4 := cl_of cn7 4
            have y5 := cl_of cn7 5
            have y6 := cl_of cn7 6
            have y7 := cl_of cn7 7
            have q0 := cl_of cx7 0
            have q1 := cl_of cx7 1
            have q2 := cl_of cx7 2
            have q3 := cl_of cx7 3
            have q4 := cl_of cx7 4
            have q5 := cl_of cx7 5
            have q6 := cl_of cx7 6
            have q7 := cl_of cx7 7
            have qz := fz_of cx7
            have hl80 := HL80.out
            have hwk : wrap64 ((k : Int) + 1) = ((k + 1 : Nat) : Int) := by unfold wrap64; omega
            clear hL7 cn7 cx7 h9 hB7 hq6
            go_wp2_with fail
            go_roundw
            case rel => exact ⟨k + 1, y, M6, X6, by omega, by first | rw [hwk] | go_num, H9.out, HY6.out.1, HY6.out.2⟩
            case measure => first | (rw [hwk]; simp [intOf]; omega) | (simp [intOf]; omega)
        by_cases p36 : 36 ≤ sp.page
        · have hnd : needs x sp.page = false := decide_eq_false (fun h => by omega)
          have d1 : decide (sp.page ≥ 4) = true := decide_eq_true (by omega)
          have d2 : decide (sp.page < 36) = false := decide_eq_false (by omega)
          clear p4 p36
          apply region_mid (R := fun _ W' => Below w6.heap.size w6 W')
          case h =>
            refine wp_region_held_drew (S := (fun Wq => (Wq.cell? ⟨bx, 0, none⟩ = some (.int .u8 x.k) ∧ Wq.cell? ⟨bx, 1, none⟩ = some (.int .u16 x.l) ∧ Wq.cell? ⟨bx, 2, none⟩ = some (.int .u32 x.s) ∧ Wq.cell? ⟨bx, 3, none⟩ = some (.int .u16 x.d0) ∧ Wq.cell? ⟨bx, 4, none⟩ = some (.int .u16 x.d1) ∧ Wq.cell? ⟨bx, 5, none⟩ = some (.int .u16 x.d2) ∧ Wq.cell? ⟨bx, 6, none⟩ = some (.int .u16 x.d3) ∧ Wq.cell? ⟨bx, 7, none⟩ = some (.int .u16 x.n) ∧ Wq.cell? ⟨b0, off + k * 4 + 1, none⟩ = some (.int .i64 sp.page)))) (by kernel_rfl) (by exact hq6) (fun hHeld => ?_)
            refine wpAnyH_now (i := 0) (v := ?v37) rfl (by kernel_rfl) (by kernel_rfl) (by kernel_rfl) (fun _ _ _ h => h) (by rfl) ?h37 (by assumption) ?_
            case h37 => ((intro w hSw; (try dsimp only at hSw); go_simp); try with_reducible rfl)
            (try simp only [Act.put, List.setIfInBounds_toArray, List.set_cons_succ, List.set_cons_zero])
            refine wpAnyH_now (i := 1) (v := ?v38) rfl (by kernel_rfl) (by kernel_rfl) (by kernel_rfl) (fun _ _ _ h => h) (by rfl) ?h38 (by assumption) ?_
            case h38 => ((intro w hSw; (try dsimp only at hSw); go_simp); try with_reducible rfl)
            (try simp only [Act.put, List.setIfInBounds_toArray, List.set_cons_succ, List.set_cons_zero])
            refine wpAnyH_now (i := 2) (v := ?v39) rfl (by kernel_rfl) (by kernel_rfl) (by kernel_rfl) (fun _ _ _ h => h) (by rfl) ?h39 (by assumption) ?_
            case h39 => ((intro w hSw; (try dsimp only at hSw); go_simp); try with_reducible rfl)
            (try simp only [Act.put, List.setIfInBounds_toArray, List.set_cons_succ, List.set_cons_zero])
            refine wpAnyH_now (i := 3) (v := ?v40) rfl (by kernel_rfl) (by kernel_rfl) (by kernel_rfl) (fun _ _ _ h => h) (by rfl) ?h40 (by assumption) ?_
            case h40 => ((intro w hSw; (try dsimp only at hSw); go_simp); try with_reducible rfl)
            (try simp only [Act.put, List.setIfInBounds_toArray, List.set_cons_succ, List.set_cons_zero])
            refine wpAnyH_now (i := 4) (v := ?v41) rfl (by kernel_rfl) (by kernel_rfl) (by kernel_rfl) (fun _ _ _ h => h) (by rfl) ?h41 (by assumption) ?_
            case h41 => ((intro w hSw; (try dsimp only at hSw); go_simp); try with_reducible rfl)
            (try simp only [Act.put, List.setIfInBounds_toArray, List.set_cons_succ, List.set_cons_zero])
            refine wpAnyH_now (i := 5) (v := ?v42) rfl (by kernel_rfl) (by kernel_rfl) (by kernel_rfl) (fun _ _ _ h => h) (by rfl) ?h42 (by assumption) ?_
            case h42 => ((intro w hSw; (try dsimp only at hSw); go_simp); try with_reducible rfl)
            (try simp only [Act.put, List.setIfInBounds_toArray, List.set_cons_succ, List.set_cons_zero])
            refine wpAnyH_now (i := 6) (v := ?v43) rfl (by kernel_rfl) (by kernel_rfl) (by kernel_rfl) (fun _ _ _ h => h) (by rfl) ?h43 (by assumption) ?_
            case h43 => ((intro w hSw; (try dsimp only at hSw); go_simp); try with_reducible rfl)
            (try simp only [Act.put, List.setIfInBounds_toArray, List.set_cons_succ, List.set_cons_zero])
            refine wpAnyH_now (i := 7) (v := ?v44) rfl (by kernel_rfl) (by kernel_rfl) (by kernel_rfl) (fun _ _ _ h => h) (by rfl) ?h44 (by assumption) ?_
            case h44 => ((intro w hSw; (try dsimp only at hSw); go_simp); try with_reducible rfl)
            (try simp only [Act.put, List.setIfInBounds_toArray, List.set_cons_succ, List.set_cons_zero])
            refine wpAnyH_now (i := 8) (v := ?v45) rfl (by kernel_rfl) (by kernel_rfl) (by kernel_rfl) (fun _ _ _ h => h) (by rfl) ?h45 (by assumption) ?_
            case h45 => ((intro w hSw; (try dsimp only at hSw); go_simp); try with_reducible rfl)
            (try simp only [Act.put, List.setIfInBounds_toArray, List.set_cons_succ, List.set_cons_zero])
            refine wpAnyH_now (i := 10) (v := ?v46) rfl (by kernel_rfl) (by kernel_rfl) (by kernel_rfl) (fun _ _ _ h => h) (by rfl) ?h46 (by assumption) ?_
            case h46 => ((intro w hSw; (try dsimp only at hSw); go_simp); try with_reducible rfl)
            (try simp only [Act.put, List.setIfInBounds_toArray, List.set_cons_succ, List.set_cons_zero])
            refine wpAnyH_now (i := 11) (v := ?v47) rfl (by kernel_rfl) (by kernel_rfl) (by kernel_rfl) (fun _ _ _ h => h) (by rfl) ?h47 (by assumption) ?_
            case h47 => ((intro w hSw; (try dsimp only at hSw); go_simp); try with_reducible rfl)
            (try simp only [Act.put, List.setIfInBounds_toArray, List.set_cons_succ, List.set_cons_zero])
            refine wpAnyH_now (i := 12) (v := ?v48) rfl (by kernel_rfl) (by kernel_rfl) (by kernel_rfl) (fun _ _ _ h => h) (by rfl) ?h48 (by assumption) ?_
            case h48 => ((intro w hSw; (try dsimp only at hSw); go_simp); try with_reducible rfl)
            (try simp only [Act.put, List.setIfInBounds_toArray, List.set_cons_succ, List.set_cons_zero])
            refine wpAnyH_now (i := 13) (v := ?v49) rfl (by kernel_rfl) (by kernel_rfl) (by kernel_rfl) (fun _ _ _ h => h) (by rfl) ?h49 (by assumption) ?_
            case h49 => ((intro w hSw; (try dsimp only at hSw); go_simp); try with_reducible rfl)
            (try simp only [Act.put, List.setIfInBounds_toArray, List.set_cons_succ, List.set_cons_zero])
            refine wpAnyH_now (i := 14) (v := ?v50) rfl (by kernel_rfl) (by kernel_rfl) (by kernel_rfl) (fun _ _ _ h => h) (by rfl) ?h50 (by assumption) ?_
            case h50 => ((intro w hSw; (try dsimp only at hSw); go_simp); try with_reducible rfl)
            (try simp only [Act.put, List.setIfInBounds_toArray, List.set_cons_succ, List.set_cons_zero])
            refine wpAnyH_now (i := 15) (v := ?v51) rfl (by kernel_rfl) (by kernel_rfl) (by kernel_rfl) (fun _ _ _ h => h) (by rfl) ?h51 (by assumption) ?_
            case h51 => ((intro w hSw; (try dsimp only at hSw); go_simp); try with_reducible rfl)
            (try simp only [Act.put, List.setIfInBounds_toArray, List.set_cons_succ, List.set_cons_zero])
            refine wpAnyH_only (i := 9) (by kernel_rfl) rfl (by rfl) (fun K hK => ?_)
            go_simp
            refine (HND.out _).mono ?_
            rintro e w7 ⟨rfl, hB7⟩
            rw [hnd] 
            refine hK.out _ _ (by exact HKP.out _ (bt (Below.refl _ w6).drew hB7)) (fun hHeld => ?_)
            clear hK K
            (try simp only [Act.put, List.setIfInBounds_toArray, List.set_cons_succ, List.set_cons_zero])
            refine wpAnyH_now (i := 16) (v := ?v52) rfl (by kernel_rfl) (by kernel_rfl) (by kernel_rfl) (fun _ _ _ h => h) (by rfl) ?h52 (by assumption) ?_
            case h52 => ((intro w hSw; (try dsimp only at hSw); go_simp); try with_reducible rfl)
            (try simp only [Act.put, List.setIfInBounds_toArray, List.set_cons_succ, List.set_cons_zero])
            refine wpAnyH_now (i := 17) (v := ?v53) rfl (by kernel_rfl) (by kernel_rfl) (by kernel_rfl) (fun _ _ _ h => h) (by rfl) ?h53 (by assumption) ?_
            case h53 => ((intro w hSw; (try dsimp only at hSw); go_simp); try with_reducible rfl)
            (try simp only [Act.put, List.setIfInBounds_toArray, List.set_cons_succ, List.set_cons_zero])
            refine wpAnyH_now (i := 18) (v := ?v54) rfl (by kernel_rfl) (by kernel_rfl) (by kernel_rfl) (fun _ _ _ h => h) (by rfl) ?h54 (by assumption) ?_
            case h54 => ((intro w hSw; (try dsimp only at hSw); go_simp); try with_reducible rfl)
            (try simp only [Act.put, List.setIfInBounds_toArray, List.set_cons_succ, List.set_cons_zero])
            refine wpAnyH_now (i := 19) (v := ?v55) rfl (by kernel_rfl) (by kernel_rfl) (by kernel_rfl) (fun _ _ _ h => h) (by rfl) ?h55 (by assumption) ?_
            case h55 => ((intro w hSw; (try dsimp only at hSw); go_simp); try with_reducible rfl)
            (try simp only [Act.put, List.setIfInBounds_toArray, List.set_cons_succ, List.set_cons_zero])
            refine wpAnyH_now (i := 20) (v := ?v56) rfl (by kernel_rfl) (by kernel_rfl) (by kernel_rfl) (fun _ _ _ h => h) (by rfl) ?h56 (by assumption) ?_
            case h56 => ((intro w hSw; (try dsimp only at hSw); go_simp); try with_reducible rfl)
            (try simp only [Act.put, List.setIfInBounds_toArray, List.set_cons_succ, List.set_cons_zero])
            refine wpAnyH_now (i := 21) (v := ?v57) rfl (by kernel_rfl) (by kernel_rfl) (by kernel_rfl) (fun _ _ _ h => h) (by rfl) ?h57 (by assumption) ?_
            case h57 => ((intro w hSw; (try dsimp only at hSw); go_simp); try with_reducible rfl)
            (try simp only [Act.put, List.setIfInBounds_toArray, List.set_cons_succ, List.set_cons_zero])
            refine wpAnyH_now (i := 22) (v := ?v58) rfl (by kernel_rfl) (by kernel_rfl) (by kernel_rfl) (fun _ _ _ h => h) (by rfl) ?h58 (by assumption) ?_
            case h58 => ((intro w hSw; (try dsimp only at hSw); go_simp); try with_reducible rfl)
            (try simp only [Act.put, List.setIfInBounds_toArray, List.set_cons_succ, List.set_cons_zero])
            refine wpAnyH_now (i := 23) (v := ?v59) rfl (by kernel_rfl) (by kernel_rfl) (by kernel_rfl) (fun _ _ _ h => h) (by rfl) ?h59 (by assumption) ?_
            case h59 => ((intro w hSw; (try dsimp only at hSw); go_simp); try with_reducible rfl)
            (try simp only [Act.put, List.setIfInBounds_toArray, List.set_cons_succ, List.set_cons_zero])
            refine wpAnyH_now (i := 24) (v := ?v60) rfl (by kernel_rfl) (by kernel_rfl) (by kernel_rfl) (fun _ _ _ h => h) (by rfl) ?h60 (by assumption) ?_
            case h60 => ((intro w hSw; (try dsimp only at hSw); go_simp); try with_reducible rfl)
            (try simp only [Act.put, List.setIfInBounds_toArray, List.set_cons_succ, List.set_cons_zero])
            refine wpAnyH_skip (i := 25) rfl (by kernel_rfl) (by kernel_rfl) (by kernel_rfl) (fun _ _ _ h => h) (by rfl) (by assumption) ?_
            (try simp only [Act.put, List.setIfInBounds_toArray, List.set_cons_succ, List.set_cons_zero])
            refine wpAnyH_skip (i := 26) rfl (by kernel_rfl) (by kernel_rfl) (by kernel_rfl) (fun _ _ _ h => h) (by rfl) (by assumption) ?_
            (try simp only [Act.put, List.setIfInBounds_toArray, List.set_cons_succ, List.set_cons_zero])
            refine wpAnyH_skip (i := 27) rfl (by kernel_rfl) (by kernel_rfl) (by kernel_rfl) (fun _ _ _ h => h) (by rfl) (by assumption) ?_
            (try simp only [Act.put, List.setIfInBounds_toArray, List.set_cons_succ, List.set_cons_zero])
            refine wpAnyH_now (i := 28) (v := ?v61) rfl (by kernel_rfl) (by kernel_rfl) (by kernel_rfl) (fun _ _ _ h => h) (by rfl) ?h61 (by assumption) ?_
            case h61 => ((intro w hSw; (try dsimp only at hSw); go_simp); try with_reducible rfl)
            (try simp only [Act.put, List.setIfInBounds_toArray, List.set_cons_succ, List.set_cons_zero])
            refine wpAnyH_now (i := 29) (v := ?v62) rfl (by kernel_rfl) (by kernel_rfl) (by kernel_rfl) (fun _ _ _ h => h) (by rfl) ?h62 (by assumption) ?_
            case h62 => ((intro w hSw; (try dsimp only at hSw); go_simp); try with_reducible rfl)
            (try simp only [Act.put, List.setIfInBounds_toArray, List.set_cons_succ, List.set_cons_zero])
            refine wpAnyH_now (i := 30) (v := ?v63) rfl (by kernel_rfl) (by kernel_rfl) (by kernel_rfl) (fun _ _ _ h => h) (by rfl) ?h63 (by assumption) ?_
            case h63 => ((intro w hSw; (try dsimp only at hSw); go_simp); try with_reducible rfl)
            (try simp only [Act.put, List.setIfInBounds_toArray, List.set_cons_succ, List.set_cons_zero])
            refine wpAnyH_done (by kernel_rfl) ?_ _
            refine NoPanic.normal ?_
            obtain ⟨nv, -⟩ : ∃ nv : Nat, nv = 0 := ⟨0, rfl⟩
            exact ⟨rfl, nv, rfl, bt (Below.refl _ w6).drew hB7⟩
          case hc =>
            rintro nbx w7 hB7
            have hL7 := HL6.out.of hB7
            have cn7 := bblk hB7 HN6.out
            have cx7 := hL7.x
            have h9 := hL7.turn (by have := HO.out; omega) hgx y
            have H9 := Lib.hid h9
            unfold put8 at H9
            unfold ic at cn7 cx7
            have y0 := cl_of cn7 0
            have y1 := cl_of cn7 1
            have y2 := cl_of cn7 2
            have y3 := cl_of cn7 3
            have y4 := cl_of cn7 4
            have y5 := cl_of cn7 5
            have y6 := cl_of cn7 6
            have y7 := cl_of cn7 7
            have q0 := cl_of cx7 0
            have q1 := cl_of cx7 1
            have q2 := cl_of cx7 2
            have q3 := cl_of cx7 3
            have q4 := cl_of cx7 4
            have q5 := cl_of cx7 5
            have q6 := cl_of cx7 6
            have q7 := cl_of cx7 7
            have qz := fz_of cx7
            have hl80 := HL80.out
            have hwk : wrap64 ((k : Int) + 1) = ((k + 1 : Nat) : Int) := by unfold wrap64; omega
            clear hL7 cn7 cx7 h9 hB7 hq6
            go_wp2_with fail
            go_roundw
            case rel => exact ⟨k + 1, y, M6, X6, by omega, by first | rw [hwk] | go_num, H9.out, HY6.out.1, HY6.out.2⟩
            case measure => first | (rw [hwk]; simp [intOf]; omega) | (simp [intOf]; omega)
        by_cases hn0 : x.n = 0
        · have hnd : needs x sp.page = true := decide_eq_true ⟨by omega, by omega, hn0⟩
          have d1 : decide (sp.page ≥ 4) = true := decide_eq_true (by omega)
          have d2 : decide (sp.page < 36) = true := decide_eq_true (by omega)
          have d3 : (x.n == 0) = true := by simpa using hn0
          clear p4 p36 hn0
          apply region_mid (R := fun _ W' => Below w6.heap.size w6 W')
          case h =>
            refine wp_region_held_drew (S := (fun Wq => (Wq.cell? ⟨bx, 0, none⟩ = some (.int .u8 x.k) ∧ Wq.cell? ⟨bx, 1, none⟩ = some (.int .u16 x.l) ∧ Wq.cell? ⟨bx, 2, none⟩ = some (.int .u32 x.s) ∧ Wq.cell? ⟨bx, 3, none⟩ = some (.int .u16 x.d0) ∧ Wq.cell? ⟨bx, 4, none⟩ = some (.int .u16 x.d1) ∧ Wq.cell? ⟨bx, 5, none⟩ = some (.int .u16 x.d2) ∧ Wq.cell? ⟨bx, 6, none⟩ = some (.int .u16 x.d3) ∧ Wq.cell? ⟨bx, 7, none⟩ = some (.int .u16 x.n) ∧ Wq.cell? ⟨b0, off + k * 4 + 1, none⟩ = some (.int .i64 sp.page)))) (by kernel_rfl) (by exact hq6) (fun hHeld => ?_)
            refine wpAnyH_now (i := 0) (v := ?v64) rfl (by kernel_rfl) (by kernel_rfl) (by kernel_rfl) (fun _ _ _ h => h) (by rfl) ?h64 (by assumption) ?_
            case h64 => ((intro w hSw; (try dsimp only at hSw); go_simp); try with_reducible rfl)
            (try simp only [Act.put, List.setIfInBounds_toArray, List.set_cons_succ, List.set_cons_zero])
            refine wpAnyH_now (i := 1) (v := ?v65) rfl (by kernel_rfl) (by kernel_rfl) (by kernel_rfl) (fun _ _ _ h => h) (by rfl) ?h65 (by assumption) ?_
            case h65 => ((intro w hSw; (try dsimp only at hSw); go_simp); try with_reducible rfl)
            (try simp only [Act.put, List.setIfInBounds_toArray, List.set_cons_succ, List.set_cons_zero])
            refine wpAnyH_now (i := 2) (v := ?v66) rfl (by kernel_rfl) (by kernel_rfl) (by kernel_rfl) (fun _ _ _ h => h) (by rfl) ?h66 (by assumption) ?_
            case h66 => ((intro w hSw; (try dsimp only at hSw); go_simp); try with_reducible rfl)
            (try simp only [Act.put, List.setIfInBounds_toArray, List.set_cons_succ, List.set_cons_zero])
            refine wpAnyH_now (i := 3) (v := ?v67) rfl (by kernel_rfl) (by kernel_rfl) (by kernel_rfl) (fun _ _ _ h => h) (by rfl) ?h67 (by assumption) ?_
            case h67 => ((intro w hSw; (try dsimp only at hSw); go_simp); try with_reducible rfl)
            (try simp only [Act.put, List.setIfInBounds_toArray, List.set_cons_succ, List.set_cons_zero])
            refine wpAnyH_now (i := 4) (v := ?v68) rfl (by kernel_rfl) (by kernel_rfl) (by kernel_rfl) (fun _ _ _ h => h) (by rfl) ?h68 (by assumption) ?_
            case h68 => ((intro w hSw; (try dsimp only at hSw); go_simp); try with_reducible rfl)
            (try simp only [Act.put, List.setIfInBounds_toArray, List.set_cons_succ, List.set_cons_zero])
            refine wpAnyH_now (i := 5) (v := ?v69) rfl (by kernel_rfl) (by kernel_rfl) (by kernel_rfl) (fun _ _ _ h => h) (by rfl) ?h69 (by assumption) ?_
            case h69 => ((intro w hSw; (try dsimp only at hSw); go_simp); try with_reducible rfl)
            (try simp only [Act.put, List.setIfInBounds_toArray, List.set_cons_succ, List.set_cons_zero])
            refine wpAnyH_now (i := 6) (v := ?v70) rfl (by kernel_rfl) (by kernel_rfl) (by kernel_rfl) (fun _ _ _ h => h) (by rfl) ?h70 (by assumption) ?_
            case h70 => ((intro w hSw; (try dsimp only at hSw); go_simp); try with_reducible rfl)
            (try simp only [Act.put, List.setIfInBounds_toArray, List.set_cons_succ, List.set_cons_zero])
            refine wpAnyH_now (i := 7) (v := ?v71) rfl (by kernel_rfl) (by kernel_rfl) (by kernel_rfl) (fun _ _ _ h => h) (by rfl) ?h71 (by assumption) ?_
            case h71 => ((intro w hSw; (try dsimp only at hSw); go_simp); try with_reducible rfl)
            (try simp only [Act.put, List.setIfInBounds_toArray, List.set_cons_succ, List.set_cons_zero])
            refine wpAnyH_now (i := 8) (v := ?v72) rfl (by kernel_rfl) (by kernel_rfl) (by kernel_rfl) (fun _ _ _ h => h) (by rfl) ?h72 (by assumption) ?_
            case h72 => ((intro w hSw; (try dsimp only at hSw); go_simp); try with_reducible rfl)
            (try simp only [Act.put, List.setIfInBounds_toArray, List.set_cons_succ, List.set_cons_zero])
            refine wpAnyH_now (i := 10) (v := ?v73) rfl (by kernel_rfl) (by kernel_rfl) (by kernel_rfl) (fun _ _ _ h => h) (by rfl) ?h73 (by assumption) ?_
            case h73 => ((intro w hSw; (try dsimp only at hSw); go_simp); try with_reducible rfl)
            (try simp only [Act.put, List.setIfInBounds_toArray, List.set_cons_succ, List.set_cons_zero])
            refine wpAnyH_now (i := 11) (v := ?v74) rfl (by kernel_rfl) (by kernel_rfl) (by kernel_rfl) (fun _ _ _ h => h) (by rfl) ?h74 (by assumption) ?_
            case h74 => ((intro w hSw; (try dsimp only at hSw); go_simp); try with_reducible rfl)
            (try simp only [Act.put, List.setIfInBounds_toArray, List.set_cons_succ, List.set_cons_zero])
            refine wpAnyH_now (i := 12) (v := ?v75) rfl (by kernel_rfl) (by kernel_rfl) (by kernel_rfl) (fun _ _ _ h => h) (by rfl) ?h75 (by assumption) ?_
            case h75 => ((intro w hSw; (try dsimp only at hSw); go_simp); try with_reducible rfl)
            (try simp only [Act.put, List.setIfInBounds_toArray, List.set_cons_succ, List.set_cons_zero])
            refine wpAnyH_now (i := 13) (v := ?v76) rfl (by kernel_rfl) (by kernel_rfl) (by kernel_rfl) (fun _ _ _ h => h) (by rfl) ?h76 (by assumption) ?_
            case h76 => ((intro w hSw; (try dsimp only at hSw); go_simp); try with_reducible rfl)
            (try simp only [Act.put, List.setIfInBounds_toArray, List.set_cons_succ, List.set_cons_zero])
            refine wpAnyH_now (i := 14) (v := ?v77) rfl (by kernel_rfl) (by kernel_rfl) (by kernel_rfl) (fun _ _ _ h => h) (by rfl) ?h77 (by assumption) ?_
            case h77 => ((intro w hSw; (try dsimp only at hSw); go_simp); try with_reducible rfl)
            (try simp only [Act.put, List.setIfInBounds_toArray, List.set_cons_succ, List.set_cons_zero])
            refine wpAnyH_now (i := 15) (v := ?v78) rfl (by kernel_rfl) (by kernel_rfl) (by kernel_rfl) (fun _ _ _ h => h) (by rfl) ?h78 (by assumption) ?_
            case h78 => ((intro w hSw; (try dsimp only at hSw); go_simp); try with_reducible rfl)
            (try simp only [Act.put, List.setIfInBounds_toArray, List.set_cons_succ, List.set_cons_zero])
            refine wpAnyH_only (i := 9) (by kernel_rfl) rfl (by rfl) (fun K hK => ?_)
            go_simp
            refine (HND.out _).mono ?_
            rintro e w7 ⟨rfl, hB7⟩
            rw [hnd] 
            refine hK.out _ _ (by exact HKP.out _ (bt (Below.refl _ w6).drew hB7)) (fun hHeld => ?_)
            clear hK K
            (try simp only [Act.put, List.setIfInBounds_toArray, List.set_cons_succ, List.set_cons_zero])
            refine wpAnyH_now (i := 16) (v := ?v79) rfl (by kernel_rfl) (by kernel_rfl) (by kernel_rfl) (fun _ _ _ h => h) (by rfl) ?h79 (by assumption) ?_
            case h79 => ((intro w hSw; (try dsimp only at hSw); go_simp); try with_reducible rfl)
            (try simp only [Act.put, List.setIfInBounds_toArray, List.set_cons_succ, List.set_cons_zero])
            refine wpAnyH_now (i := 17) (v := ?v80) rfl (by kernel_rfl) (by kernel_rfl) (by kernel_rfl) (fun _ _ _ h => h) (by rfl) ?h80 (by assumption) ?_
            case h80 => ((intro w hSw; (try dsimp only at hSw); go_simp); try with_reducible rfl)
            (try simp only [Act.put, List.setIfInBounds_toArray, List.set_cons_succ, List.set_cons_zero])
            refine wpAnyH_now (i := 18) (v := ?v81) rfl (by kernel_rfl) (by kernel_rfl) (by kernel_rfl) (fun _ _ _ h => h) (by rfl) ?h81 (by assumption) ?_
            case h81 => ((intro w hSw; (try dsimp only at hSw); go_simp); try with_reducible rfl)
            (try simp only [Act.put, List.setIfInBounds_toArray, List.set_cons_succ, List.set_cons_zero])
            refine wpAnyH_now (i := 19) (v := ?v82) rfl (by kernel_rfl) (by kernel_rfl) (by kernel_rfl) (fun _ _ _ h => h) (by rfl) ?h82 (by assumption) ?_
            case h82 => ((intro w hSw; (try dsimp only at hSw); go_simp); try with_reducible rfl)
            (try simp only [Act.put, List.setIfInBounds_toArray, List.set_cons_succ, List.set_cons_zero])
            refine wpAnyH_now (i := 20) (v := ?v83) rfl (by kernel_rfl) (by kernel_rfl) (by kernel_rfl) (fun _ _ _ h => h) (by rfl) ?h83 (by assumption) ?_
            case h83 => ((intro w hSw; (try dsimp only at hSw); go_simp); try with_reducible rfl)
            (try simp only [Act.put, List.setIfInBounds_toArray, List.set_cons_succ, List.set_cons_zero])
            refine wpAnyH_now (i := 21) (v := ?v84) rfl (by kernel_rfl) (by kernel_rfl) (by kernel_rfl) (fun _ _ _ h => h) (by rfl) ?h84 (by assumption) ?_
            case h84 => ((intro w hSw; (try dsimp only at hSw); go_simp); try with_reducible rfl)
            (try simp only [Act.put, List.setIfInBounds_toArray, List.set_cons_succ, List.set_cons_zero])
            refine wpAnyH_now (i := 22) (v := ?v85) rfl (by kernel_rfl) (by kernel_rfl) (by kernel_rfl) (fun _ _ _ h => h) (by rfl) ?h85 (by assumption) ?_
            case h85 => ((intro w hSw; (try dsimp only at hSw); go_simp); try with_reducible rfl)
            (try simp only [Act.put, List.setIfInBounds_toArray, List.set_cons_succ, List.set_cons_zero])
            refine wpAnyH_now (i := 23) (v := ?v86) rfl (by kernel_rfl) (by kernel_rfl) (by kernel_rfl) (fun _ _ _ h => h) (by rfl) ?h86 (by assumption) ?_
            case h86 => ((intro w hSw; (try dsimp only at hSw); go_simp); try with_reducible rfl)
            (try simp only [Act.put, List.setIfInBounds_toArray, List.set_cons_succ, List.set_cons_zero])
            refine wpAnyH_now (i := 24) (v := ?v87) rfl (by kernel_rfl) (by kernel_rfl) (by kernel_rfl) (fun _ _ _ h => h) (by rfl) ?h87 (by assumption) ?_
            case h87 => ((intro w hSw; (try dsimp only at hSw); go_simp); try with_reducible rfl)
            (try simp only [Act.put, List.setIfInBounds_toArray, List.set_cons_succ, List.set_cons_zero])
            refine wpAnyH_now (i := 25) (v := ?v88) rfl (by kernel_rfl) (by kernel_rfl) (by kernel_rfl) (fun _ _ _ h => h) (by rfl) ?h88 (by assumption) ?_
            case h88 => ((intro w hSw; (try dsimp only at hSw); go_simp); try with_reducible rfl)
            (try simp only [Act.put, List.setIfInBounds_toArray, List.set_cons_succ, List.set_cons_zero])
            refine wpAnyH_now (i := 26) (v := ?v89) rfl (by kernel_rfl) (by kernel_rfl) (by kernel_rfl) (fun _ _ _ h => h) (by rfl) ?h89 (by assumption) ?_
            case h89 => ((intro w hSw; (try dsimp only at hSw); go_simp); try with_reducible rfl)
            (try simp only [Act.put, List.setIfInBounds_toArray, List.set_cons_succ, List.set_cons_zero])
            refine wpAnyH_now (i := 27) (v := ?v90) rfl (by kernel_rfl) (by kernel_rfl) (by kernel_rfl) (fun _ _ _ h => h) (by rfl) ?h90 (by assumption) ?_
            case h90 => ((intro w hSw; (try dsimp only at hSw); go_simp); try with_reducible rfl)
            (try simp only [Act.put, List.setIfInBounds_toArray, List.set_cons_succ, List.set_cons_zero])
            refine wpAnyH_now (i := 28) (v := ?v91) rfl (by kernel_rfl) (by kernel_rfl) (by kernel_rfl) (fun _ _ _ h => h) (by rfl) ?h91 (by assumption) ?_
            case h91 => ((intro w hSw; (try dsimp only at hSw); go_simp); try with_reducible rfl)
            (try simp only [Act.put, List.setIfInBounds_toArray, List.set_cons_succ, List.set_cons_zero])
            refine wpAnyH_now (i := 29) (v := ?v92) rfl (by kernel_rfl) (by kernel_rfl) (by kernel_rfl) (fun _ _ _ h => h) (by rfl) ?h92 (by assumption) ?_
            case h92 => ((intro w hSw; (try dsimp only at hSw); go_simp); try with_reducible rfl)
            (try simp only [Act.put, List.setIfInBounds_toArray, List.set_cons_succ, List.set_cons_zero])
            refine wpAnyH_now (i := 30) (v := ?v93) rfl (by kernel_rfl) (by kernel_rfl) (by kernel_rfl) (fun _ _ _ h => h) (by rfl) ?h93 (by assumption) ?_
            case h93 => ((intro w hSw; (try dsimp only at hSw); go_simp); try with_reducible rfl)
            (try simp only [Act.put, List.setIfInBounds_toArray, List.set_cons_succ, List.set_cons_zero])
            refine wpAnyH_done (by kernel_rfl) ?_ _
            refine NoPanic.normal ?_
            obtain ⟨nv, -⟩ : ∃ nv : Nat, nv = 0 := ⟨0, rfl⟩
            exact ⟨rfl, nv, rfl, bt (Below.refl _ w6).drew hB7⟩
          case hc =>
            rintro nbx w7 hB7
            have hL7 := HL6.out.of hB7
            have cn7 := bblk hB7 HN6.out
            have cx7 := hL7.x
            have h9 := hL7.turn (by have := HO.out; omega) hgx y
            have H9 := Lib.hid h9
            unfold put8 at H9
            unfold ic at cn7 cx7
            have y0 := cl_of cn7 0
            have y1 := cl_of cn7 1
            have y2 := cl_of cn7 2
            have y3 := cl_of cn7 3
            have y4 := cl_of cn7 4
            have y5 := cl_of cn7 5
            have y6 := cl_of cn7 6
            have y7 := cl_of cn7 7
            have q0 := cl_of cx7 0
            have q1 := cl_of cx7 1
            have q2 := cl_of cx7 2
            have q3 := cl_of cx7 3
            have q4 := cl_of cx7 4
            have q5 := cl_of cx7 5
            have q6 := cl_of cx7 6
            have q7 := cl_of cx7 7
            have qz := fz_of cx7
            have hl80 := HL80.out
            have hwk : wrap64 ((k : Int) + 1) = ((k + 1 : Nat) : Int) := by unfold wrap64; omega
            clear hL7 cn7 cx7 h9 hB7 hq6
            go_wp2_with fail
            go_roundw
            case rel => exact ⟨k + 1, y, M6, X6, by omega, by first | rw [hwk] | go_num, H9.out, HY6.out.1, HY6.out.2⟩
            case measure => first | (rw [hwk]; simp [intOf]; omega) | (simp [intOf]; omega)
        · have hnd : needs x sp.page = false := decide_eq_false (fun h => hn0 h.2.2)
          have d1 : decide (sp.page ≥ 4) = true := decide_eq_true (by omega)
          have d2 : decide (sp.page < 36) = true := decide_eq_true (by omega)
          have d3 : (x.n == 0) = false := by simpa using hn0
          clear p4 p36 hn0
          apply region_mid (R := fun _ W' => Below w6.heap.size w6 W')
          case h =>
            refine wp_region_held_drew (S := (fun Wq => (Wq.cell? ⟨bx, 0, none⟩ = some (.int .u8 x.k) ∧ Wq.cell? ⟨bx, 1, none⟩ = some (.int .u16 x.l) ∧ Wq.cell? ⟨bx, 2, none⟩ = some (.int .u32 x.s) ∧ Wq.cell? ⟨bx, 3, none⟩ = some (.int .u16 x.d0) ∧ Wq.cell? ⟨bx, 4, none⟩ = some (.int .u16 x.d1) ∧ Wq.cell? ⟨bx, 5, none⟩ = some (.int .u16 x.d2) ∧ Wq.cell? ⟨bx, 6, none⟩ = some (.int .u16 x.d3) ∧ Wq.cell? ⟨bx, 7, none⟩ = some (.int .u16 x.n) ∧ Wq.cell? ⟨b0, off + k * 4 + 1, none⟩ = some (.int .i64 sp.page)))) (by kernel_rfl) (by exact hq6) (fun hHeld => ?_)
            refine wpAnyH_now (i := 0) (v := ?v94) rfl (by kernel_rfl) (by kernel_rfl) (by kernel_rfl) (fun _ _ _ h => h) (by rfl) ?h94 (by assumption) ?_
            case h94 => ((intro w hSw; (try dsimp only at hSw); go_simp); try with_reducible rfl)
            (try simp only [Act.put, List.setIfInBounds_toArray, List.set_cons_succ, List.set_cons_zero])
            refine wpAnyH_now (i := 1) (v := ?v95) rfl (by kernel_rfl) (by kernel_rfl) (by kernel_rfl) (fun _ _ _ h => h) (by rfl) ?h95 (by assumption) ?_
            case h95 => ((intro w hSw; (try dsimp only at hSw); go_simp); try with_reducible rfl)
            (try simp only [Act.put, List.setIfInBounds_toArray, List.set_cons_succ, List.set_cons_zero])
            refine wpAnyH_now (i := 2) (v := ?v96) rfl (by kernel_rfl) (by kernel_rfl) (by kernel_rfl) (fun _ _ _ h => h) (by rfl) ?h96 (by assumption) ?_
            case h96 => ((intro w hSw; (try dsimp only at hSw); go_simp); try with_reducible rfl)
            (try simp only [Act.put, List.setIfInBounds_toArray, List.set_cons_succ, List.set_cons_zero])
            refine wpAnyH_now (i := 3) (v := ?v97) rfl (by kernel_rfl) (by kernel_rfl) (by kernel_rfl) (fun _ _ _ h => h) (by rfl) ?h97 (by assumption) ?_
            case h97 => ((intro w hSw; (try dsimp only at hSw); go_simp); try with_reducible rfl)
            (try simp only [Act.put, List.setIfInBounds_toArray, List.set_cons_succ, List.set_cons_zero])
            refine wpAnyH_now (i := 4) (v := ?v98) rfl (by kernel_rfl) (by kernel_rfl) (by kernel_rfl) (fun _ _ _ h => h) (by rfl) ?h98 (by assumption) ?_
            case h98 => ((intro w hSw; (try dsimp only at hSw); go_simp); try with_reducible rfl)
            (try simp only [Act.put, List.setIfInBounds_toArray, List.set_cons_succ, List.set_cons_zero])
            refine wpAnyH_now (i := 5) (v := ?v99) rfl (by kernel_rfl) (by kernel_rfl) (by kernel_rfl) (fun _ _ _ h => h) (by rfl) ?h99 (by assumption) ?_
            case h99 => ((intro w hSw; (try dsimp only at hSw); go_simp); try with_reducible rfl)
            (try simp only [Act.put, List.setIfInBounds_toArray, List.set_cons_succ, List.set_cons_zero])
            refine wpAnyH_now (i := 6) (v := ?v100) rfl (by kernel_rfl) (by kernel_rfl) (by kernel_rfl) (fun _ _ _ h => h) (by rfl) ?h100 (by assumption) ?_
            case h100 => ((intro w hSw; (try dsimp only at hSw); go_simp); try with_reducible rfl)
            (try simp only [Act.put, List.setIfInBounds_toArray, List.set_cons_succ, List.set_cons_zero])
            refine wpAnyH_now (i := 7) (v := ?v101) rfl (by kernel_rfl) (by kernel_rfl) (by kernel_rfl) (fun _ _ _ h => h) (by rfl) ?h101 (by assumption) ?_
            case h101 => ((intro w hSw; (try dsimp only at hSw); go_simp); try with_reducible rfl)
            (try simp only [Act.put, List.setIfInBounds_toArray, List.set_cons_succ, List.set_cons_zero])
            refine wpAnyH_now (i := 8) (v := ?v102) rfl (by kernel_rfl) (by kernel_rfl) (by kernel_rfl) (fun _ _ _ h => h) (by rfl) ?h102 (by assumption) ?_
            case h102 => ((intro w hSw; (try dsimp only at hSw); go_simp); try with_reducible rfl)
            (try simp only [Act.put, List.setIfInBounds_toArray, List.set_cons_succ, List.set_cons_zero])
            refine wpAnyH_now (i := 10) (v := ?v103) rfl (by kernel_rfl) (by kernel_rfl) (by kernel_rfl) (fun _ _ _ h => h) (by rfl) ?h103 (by assumption) ?_
            case h103 => ((intro w hSw; (try dsimp only at hSw); go_simp); try with_reducible rfl)
            (try simp only [Act.put, List.setIfInBounds_toArray, List.set_cons_succ, List.set_cons_zero])
            refine wpAnyH_now (i := 11) (v := ?v104) rfl (by kernel_rfl) (by kernel_rfl) (by kernel_rfl) (fun _ _ _ h => h) (by rfl) ?h104 (by assumption) ?_
            case h104 => ((intro w hSw; (try dsimp only at hSw); go_simp); try with_reducible rfl)
            (try simp only [Act.put, List.setIfInBounds_toArray, List.set_cons_succ, List.set_cons_zero])
            refine wpAnyH_now (i := 12) (v := ?v105) rfl (by kernel_rfl) (by kernel_rfl) (by kernel_rfl) (fun _ _ _ h => h) (by rfl) ?h105 (by assumption) ?_
            case h105 => ((intro w hSw; (try dsimp only at hSw); go_simp); try with_reducible rfl)
            (try simp only [Act.put, List.setIfInBounds_toArray, List.set_cons_succ, List.set_cons_zero])
            refine wpAnyH_now (i := 13) (v := ?v106) rfl (by kernel_rfl) (by kernel_rfl) (by kernel_rfl) (fun _ _ _ h => h) (by rfl) ?h106 (by assumption) ?_
            case h106 => ((intro w hSw; (try dsimp only at hSw); go_simp); try with_reducible rfl)
            (try simp only [Act.put, List.setIfInBounds_toArray, List.set_cons_succ, List.set_cons_zero])
            refine wpAnyH_now (i := 14) (v := ?v107) rfl (by kernel_rfl) (by kernel_rfl) (by kernel_rfl) (fun _ _ _ h => h) (by rfl) ?h107 (by assumption) ?_
            case h107 => ((intro w hSw; (try dsimp only at hSw); go_simp); try with_reducible rfl)
            (try simp only [Act.put, List.setIfInBounds_toArray, List.set_cons_succ, List.set_cons_zero])
            refine wpAnyH_now (i := 15) (v := ?v108) rfl (by kernel_rfl) (by kernel_rfl) (by kernel_rfl) (fun _ _ _ h => h) (by rfl) ?h108 (by assumption) ?_
            case h108 => ((intro w hSw; (try dsimp only at hSw); go_simp); try with_reducible rfl)
            (try simp only [Act.put, List.setIfInBounds_toArray, List.set_cons_succ, List.set_cons_zero])
            refine wpAnyH_only (i := 9) (by kernel_rfl) rfl (by rfl) (fun K hK => ?_)
            go_simp
            refine (HND.out _).mono ?_
            rintro e w7 ⟨rfl, hB7⟩
            rw [hnd] 
            refine hK.out _ _ (by exact HKP.out _ (bt (Below.refl _ w6).drew hB7)) (fun hHeld => ?_)
            clear hK K
            (try simp only [Act.put, List.setIfInBounds_toArray, List.set_cons_succ, List.set_cons_zero])
            refine wpAnyH_now (i := 16) (v := ?v109) rfl (by kernel_rfl) (by kernel_rfl) (by kernel_rfl) (fun _ _ _ h => h) (by rfl) ?h109 (by assumption) ?_
            case h109 => ((intro w hSw; (try dsimp only at hSw); go_simp); try with_reducible rfl)
            (try simp only [Act.put, List.setIfInBounds_toArray, List.set_cons_succ, List.set_cons_zero])
            refine wpAnyH_now (i := 17) (v := ?v110) rfl (by kernel_rfl) (by kernel_rfl) (by kernel_rfl) (fun _ _ _ h => h) (by rfl) ?h110 (by assumption) ?_
            case h110 => ((intro w hSw; (try dsimp only at hSw); go_simp); try with_reducible rfl)
            (try simp only [Act.put, List.setIfInBounds_toArray, List.set_cons_succ, List.set_cons_zero])
            refine wpAnyH_now (i := 18) (v := ?v111) rfl (by kernel_rfl) (by kernel_rfl) (by kernel_rfl) (fun _ _ _ h => h) (by rfl) ?h111 (by assumption) ?_
            case h111 => ((intro w hSw; (try dsimp only at hSw); go_simp); try with_reducible rfl)
            (try simp only [Act.put, List.setIfInBounds_toArray, List.set_cons_succ, List.set_cons_zero])
            refine wpAnyH_now (i := 19) (v := ?v112) rfl (by kernel_rfl) (by kernel_rfl) (by kernel_rfl) (fun _ _ _ h => h) (by rfl) ?h112 (by assumption) ?_
            case h112 => ((intro w hSw; (try dsimp only at hSw); go_simp); try with_reducible rfl)
            (try simp only [Act.put, List.setIfInBounds_toArray, List.set_cons_succ, List.set_cons_zero])
            refine wpAnyH_now (i := 20) (v := ?v113) rfl (by kernel_rfl) (by kernel_rfl) (by kernel_rfl) (fun _ _ _ h => h) (by rfl) ?h113 (by assumption) ?_
            case h113 => ((intro w hSw; (try dsimp only at hSw); go_simp); try with_reducible rfl)
            (try simp only [Act.put, List.setIfInBounds_toArray, List.set_cons_succ, List.set_cons_zero])
            refine wpAnyH_now (i := 21) (v := ?v114) rfl (by kernel_rfl) (by kernel_rfl) (by kernel_rfl) (fun _ _ _ h => h) (by rfl) ?h114 (by assumption) ?_
            case h114 => ((intro w hSw; (try dsimp only at hSw); go_simp); try with_reducible rfl)
            (try simp only [Act.put, List.setIfInBounds_toArray, List.set_cons_succ, List.set_cons_zero])
            refine wpAnyH_now (i := 22) (v := ?v115) rfl (by kernel_rfl) (by kernel_rfl) (by kernel_rfl) (fun _ _ _ h => h) (by rfl) ?h115 (by assumption) ?_
            case h115 => ((intro w hSw; (try dsimp only at hSw); go_simp); try with_reducible rfl)
            (try simp only [Act.put, List.setIfInBounds_toArray, List.set_cons_succ, List.set_cons_zero])
            refine wpAnyH_now (i := 23) (v := ?v116) rfl (by kernel_rfl) (by kernel_rfl) (by kernel_rfl) (fun _ _ _ h => h) (by rfl) ?h116 (by assumption) ?_
            case h116 => ((intro w hSw; (try dsimp only at hSw); go_simp); try with_reducible rfl)
            (try simp only [Act.put, List.setIfInBounds_toArray, List.set_cons_succ, List.set_cons_zero])
            refine wpAnyH_now (i := 24) (v := ?v117) rfl (by kernel_rfl) (by kernel_rfl) (by kernel_rfl) (fun _ _ _ h => h) (by rfl) ?h117 (by assumption) ?_
            case h117 => ((intro w hSw; (try dsimp only at hSw); go_simp); try with_reducible rfl)
            (try simp only [Act.put, List.setIfInBounds_toArray, List.set_cons_succ, List.set_cons_zero])
            refine wpAnyH_now (i := 25) (v := ?v118) rfl (by kernel_rfl) (by kernel_rfl) (by kernel_rfl) (fun _ _ _ h => h) (by rfl) ?h118 (by assumption) ?_
            case h118 => ((intro w hSw; (try dsimp only at hSw); go_simp); try with_reducible rfl)
            (try simp only [Act.put, List.setIfInBounds_toArray, List.set_cons_succ, List.set_cons_zero])
            refine wpAnyH_now (i := 26) (v := ?v119) rfl (by kernel_rfl) (by kernel_rfl) (by kernel_rfl) (fun _ _ _ h => h) (by rfl) ?h119 (by assumption) ?_
            case h119 => ((intro w hSw; (try dsimp only at hSw); go_simp); try with_reducible rfl)
            (try simp only [Act.put, List.setIfInBounds_toArray, List.set_cons_succ, List.set_cons_zero])
            refine wpAnyH_now (i := 27) (v := ?v120) rfl (by kernel_rfl) (by kernel_rfl) (by kernel_rfl) (fun _ _ _ h => h) (by rfl) ?h120 (by assumption) ?_
            case h120 => ((intro w hSw; (try dsimp only at hSw); go_simp); try with_reducible rfl)
            (try simp only [Act.put, List.setIfInBounds_toArray, List.set_cons_succ, List.set_cons_zero])
            refine wpAnyH_now (i := 28) (v := ?v121) rfl (by kernel_rfl) (by kernel_rfl) (by kernel_rfl) (fun _ _ _ h => h) (by rfl) ?h121 (by assumption) ?_
            case h121 => ((intro w hSw; (try dsimp only at hSw); go_simp); try with_reducible rfl)
            (try simp only [Act.put, List.setIfInBounds_toArray, List.set_cons_succ, List.set_cons_zero])
            refine wpAnyH_now (i := 29) (v := ?v122) rfl (by kernel_rfl) (by kernel_rfl) (by kernel_rfl) (fun _ _ _ h => h) (by rfl) ?h122 (by assumption) ?_
            case h122 => ((intro w hSw; (try dsimp only at hSw); go_simp); try with_reducible rfl)
            (try simp only [Act.put, List.setIfInBounds_toArray, List.set_cons_succ, List.set_cons_zero])
            refine wpAnyH_now (i := 30) (v := ?v123) rfl (by kernel_rfl) (by kernel_rfl) (by kernel_rfl) (fun _ _ _ h => h) (by rfl) ?h123 (by assumption) ?_
            case h123 => ((intro w hSw; (try dsimp only at hSw); go_simp); try with_reducible rfl)
            (try simp only [Act.put, List.setIfInBounds_toArray, List.set_cons_succ, List.set_cons_zero])
            refine wpAnyH_done (by kernel_rfl) ?_ _
            refine NoPanic.normal ?_
            obtain ⟨nv, -⟩ : ∃ nv : Nat, nv = 0 := ⟨0, rfl⟩
            exact ⟨rfl, nv, rfl, bt (Below.refl _ w6).drew hB7⟩
          case hc =>
            rintro nbx w7 hB7
            have hL7 := HL6.out.of hB7
            have cn7 := bblk hB7 HN6.out
            have cx7 := hL7.x
            have h9 := hL7.turn (by have := HO.out; omega) hgx y
            have H9 := Lib.hid h9
            unfold put8 at H9
            unfold ic at cn7 cx7
            have y0 := cl_of cn7 0
            have y1 := cl_of cn7 1
            have y2 := cl_of cn7 2
            have y3 := cl_of cn7 3
            have y4 := cl_of cn7 4
            have y5 := cl_of cn7 5
            have y6 := cl_of cn7 6
            have y7 := cl_of cn7 7
            have q0 := cl_of cx7 0
            have q1 := cl_of cx7 1
            have q2 := cl_of cx7 2
            have q3 := cl_of cx7 3
            have q4 := cl_of cx7 4
            have q5 := cl_of cx7 5
            have q6 := cl_of cx7 6
            have q7 := cl_of cx7 7
            have qz := fz_of cx7
            have hl80 := HL80.out
            have hwk : wrap64 ((k : Int) + 1) = ((k + 1 : Nat) : Int) := by unfold wrap64; omega
            clear hL7 cn7 cx7 h9 hB7 hq6
            go_wp2_with fail
            go_roundw
            case rel => exact ⟨k + 1, y, M6, X6, by omega, by first | rw [hwk] | go_num, H9.out, HY6.out.1, HY6.out.2⟩
            case measure => first | (rw [hwk]; simp [intOf]; omega) | (simp [intOf]; omega)
    · obtain rfl : k = ls.length := by omega
      have HLp := Lib.hid hLp
      clear hLp hM hx
      go_wp2_with fail
      refine (alive09_any _).mono ?_
      rintro e w9 ⟨rfl, hB9⟩
      have HB9 := Lib.hid (bt HLp.out.pl.below hB9)
      clear hB9
      go_wp2_with fail
      go_ret
      exact ⟨rfl, HB9.out⟩
theorem bplays_walk (v0 : Value) (g : Int × Int × Int) (v1 : Value) (x : Ino) (v2 : Value) (ls : List St9) {w : World} (hg : GeoV v0 g) (hx : InoV v1 x) (hl : Sl9 w v2 ls) :
    Calls Tryz.prog 4 #[v0, v1, v2] w fun e w' => e = .returned (.bool true) ∧ Below w.heap.size w w' := by
  obtain ⟨i, b, j⟩ := g
  obtain rfl := hg.val
  obtain rfl := hx.val
  by_cases hm : Mays i b j
  · by_cases hb : 60 < b
    · exact bp_big1 hl hx.wf hm hb
    · by_cases hj : j = 40
      · subst hj
        exact bp_main (j := 40) hl hx.wf hm (show b ≤ 60 by omega)
      · exact bp_big2 hl hx.wf hm (show b ≤ 60 by omega) hj
  · exact bp_no hl hx.wf hm
end Go.Proofs.YtjjphcnoegaimaaGreat
