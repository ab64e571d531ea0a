/- lunettelaw05.Small; lunettelaw09.Made, two, fresh; lunetteref07.Same; Set of any page; what no transaction answers. -/
import Derived.Test.YtjjphcnoegaimaaGreatBmPlain
import Derived.Test.YtjjphcnoegaimaaGreatGP
namespace Go.Proofs.YtjjphcnoegaimaaGreat
open Go.RowKit Go.Shelf Go.Maps
set_option linter.unusedSimpArgs false
set_option maxRecDepth 20000
set_option linter.unusedVariables false

theorem most_40 : IsMost 40 37 := by unfold IsMost places; decide
theorem mays_small : Mays 8 16 40 := by constructor <;> decide
theorem fr_small (k : Nat) : fr 8 16 40 k = ([1, 40, 1, 1, 4, 16].take k).sum := rfl
theorem geoN_small : GeoN 8 16 40 63 := ⟨mays_small, by rfl⟩
section
variable {w0 w W W' : World} {X : Nat → Prop} {p jb N tb m bsn : Nat} {M : Wl} {x : Ino} {i b j : Int}
set_option maxHeartbeats 400000 in
theorem small_any (W : World) : Calls Tryz.prog 31 #[] W fun e W' => e = .returned (gv 8 16 40) ∧ Below W.heap.size W W' := by
  have b0 : (W.alloc (.cells #[.int .i64 0, .int .i64 0, .int .i64 0] 56)).heap[W.heap.size]? = some (.cells #[.int .i64 0, .int .i64 0, .int .i64 0] 56 (0, 0)) := hp_new _ _ rfl
  have s0 := cl_of b0 0
  have s1 := cl_of b0 1
  have s2 := cl_of b0 2
  have z0 := fz_of b0
  go_enter Tryz.func31, Tryz.ntmps31
  go_wp2_with fail
  refine bodyPost_ret (v := gv 8 16 40) (by simp [results, Tryz.results31, go_sem, gv]) rfl ⟨rfl, ?_⟩
  repeat (refine Below.setCell ?_ (by simp) _)
  exact bnew _ _
/-- The chapter's inode. -/
def twoI : Ino := ⟨1, 0, 128, 7, 9, 0, 0, 0⟩
set_option maxHeartbeats 400000 in
theorem two_any (W : World) : Calls Tryz.prog 54 #[] W fun e W' => e = .returned (.agg (ic twoI)) ∧ Below W.heap.size W W' := by
  have b0 : (W.alloc (.cells (ic Ino.zero) 61)).heap[W.heap.size]? = some (.cells (ic Ino.zero) 61 (0, 0)) := hp_new _ _ rfl
  have s0 := cl_of b0 0
  have s1 := cl_of b0 1
  have s2 := cl_of b0 2
  have s3 := cl_of b0 3
  have s4 := cl_of b0 4
  have s5 := cl_of b0 5
  have s6 := cl_of b0 6
  have s7 := cl_of b0 7
  have z0 := fz_of b0
  unfold ic Ino.zero at *
  unfold twoI
  go_enter Tryz.func54, Tryz.ntmps54
  go_wp2_with fail
  refine bodyPost_ret (v := .agg (ic twoI)) (by simp [results, Tryz.results54, go_sem, ic, twoI]) rfl ⟨rfl, ?_⟩
  repeat (refine Below.setCell ?_ (by simp) _)
  exact bnew _ _
/-- A transaction on a new device of a geometry. -/
def Mk9 (w0 W : World) (N : Nat) (tb p : Nat) (W' : World) : Prop := ∃ (X : Nat → Prop) (jb m : Nat), TJ w0 X p jb N 0 1 40 0 0 (newS N) tb m [] false W' ∧ (∀ k, w0.heap.size ≤ k → k < W.heap.size → X k) ∧ W.heap.size ≤ jb ∧ W.heap.size ≤ tb ∧ W.heap.size ≤ m ∧ Below W.heap.size W W'
set_option maxHeartbeats 2000000 in
theorem made9_any (hm : Mays i b 40) (hN : (N : Int) = fr i b 40 6) (hB : Below w0.heap.size w0 W) : Calls Tryz.prog 30 #[gv i b 40] W fun e W' => ∃ tb p, e = .returned (.tuple #[.pointer (some ⟨tb, 0, none⟩), .pointer (some ⟨p, 0, none⟩)]) ∧ Mk9 w0 W N tb p W' := by
  have hfr1 : fr i b 40 1 = 1 := by simp [fr, szl]
  have hsz1 : sz i b 40 1 = 40 := rfl
  have hN41 : 48 ≤ N ∧ N ≤ 2000 := by
    have h6 := (fr_bd hm (k := 6) (by decide)).2
    have h7 : fr i b 40 6 = 1 + 40 + (i + 512) / 512 + (b + 512) / 512 + (i + 1) / 2 + b := by simp [fr, szl]; omega
    have := hm.b0
    have := hm.i0
    omega
  have hsec := fun W => sectors_yes hm W
  have hprt := fun W => part_yes hm 1 (by decide) W
  rw [← hN] at hsec
  rw [hfr1, hsz1] at hprt
  unfold gv
  have HS := Lib.hid hsec
  have HP := Lib.hid hprt
  have HB := Lib.hid hB
  have HN := Lib.hid hN41
  clear hsec hprt hB hN hfr1 hsz1 hN41 hm
  go_enter Tryz.func30, Tryz.ntmps30
  go_wp2_with fail
  refine (HS.out _).mono ?_
  rintro e w1 ⟨rfl, hB1⟩
  have b1 := bblk hB1 (hp_new W (.cells #[.int .i64 i, .int .i64 b, .int .i64 40] 56) rfl)
  have HB1 := Lib.hid (bt (bnew W (.cells #[.int .i64 i, .int .i64 b, .int .i64 40] 56)) hB1)
  have g0 := cl_of b1 0
  have g1 := cl_of b1 1
  have g2 := cl_of b1 2
  clear hB1 b1
  go_wp2_with fail
  refine (HP.out _).mono ?_
  rintro e w2 ⟨rfl, hB2⟩
  have HB2 := Lib.hid (bt HB1.out hB2)
  clear hB2 g0 g1 g2
  have hb3 := bnew w2 (.cells #[.int .i64 1, .int .i64 40] 134)
  have hB3 : Below w0.heap.size w0 (w2.alloc (.cells #[.int .i64 1, .int .i64 40] 134)) := bt HB.out (bt HB2.out hb3)
  have HB3 := Lib.hid (bt HB2.out hb3)
  have c3 : (w2.alloc (.cells #[.int .i64 1, .int .i64 40] 134)).heap[w2.heap.size]? = some (.cells #[.int .i64 1, .int .i64 40] 134 (0, 0)) := hp_new _ _ rfl
  have hnew := o_new N (by have := HN.out; omega) (by have := HN.out; omega) w0 _ hB3
  have HNW := Lib.hid hnew
  clear hb3 hB3 hnew
  go_wp2_with fail
  refine HNW.out.mono ?_
  rintro e w4 ⟨rfl, h4, hB4⟩
  have c4 := bblk hB4 c3
  have g0 := cl_of c4 0
  have g1 := cl_of c4 1
  have hx4 : ∀ k, w0.heap.size ≤ k ∧ k < W.heap.size → w0.heap.size ≤ k ∧ k < (w2.alloc (.cells #[.int .i64 1, .int .i64 40] 134)).heap.size := fun k hk => ⟨hk.1, Nat.lt_of_lt_of_le hk.2 HB3.out.size⟩
  have hop := open_JL (fr := 1) (n := 40) h4 (newS_ok N) (newS_JL N 1) (by decide) (by decide) (by have := HN.out; omega) (by have := HN.out; omega) most_40
  have HOP := Lib.hid hop
  have HB4 := Lib.hid (bt HB3.out hB4)
  have HX4 := Lib.hid hx4
  generalize (w2.alloc (.cells #[.int .i64 1, .int .i64 40] 134)).heap.size = n3 at *
  clear hop h4 hB4 c3 c4 hx4 HNW
  go_wp2_with fail
  refine HOP.out.mono ?_
  rintro e w5 ⟨rfl, h5, k5⟩
  have HJ5 := Lib.hid h5
  have HK5 := Lib.hid k5
  clear h5 k5 g0 g1
  go_wp2_with fail
  refine (HJ5.out.begin).mono ?_
  rintro e w6 ⟨rfl, h6, hB6⟩
  have hp : Mk9 w0 W N (w5.heap.size + 1) (n3 + 1) w6 := by
    have hs := blk_lt HJ5.out.obj
    have hs4 := HB4.out.size
    have hs5 := HJ5.out.dev.below
    refine ⟨_, _, _, h6, fun k h1 h2 => .inl (.inl (HX4.out k ⟨h1, h2⟩)), hs4, by omega, by omega, ?_⟩
    refine below_mid HB.out h6.j.dev.below (by have := hB6.size; omega) (fun k hk => ?_)
    refine (hB6.block k (by omega)).trans (Eq.trans ?_ (HB4.out.block k hk))
    by_cases e : k < w0.heap.size
    · exact HK5.out k (.inl e)
    · exact HK5.out k (.inr (HX4.out k ⟨by omega, hk⟩))
  have HP6 := Lib.hid hp
  clear h6 hB6 hp
  go_wp2_with fail
  go_ret2
  exact ⟨_, _, rfl, HP6.out⟩
end
end Go.Proofs.YtjjphcnoegaimaaGreat
