/- Package bmap: Set. -/
import Derived.Test.YtjjphcnoegaimaaGreatBm3
namespace Go.Proofs.YtjjphcnoegaimaaGreat
open Go.RowKit Go.Shelf Go.Maps
set_option linter.unusedSimpArgs false
set_option maxRecDepth 20000
set_option linter.unusedVariables false

/-- An inode with another block at a page. -/
def Ino.setd (x : Ino) (k : Nat) (b : Int) : Ino := if k = 0 then { x with d0 := b } else if k = 1 then { x with d1 := b } else if k = 2 then { x with d2 := b } else { x with d3 := b }
theorem zero_ino (w : World) : (zeroValue 61).run Tryz.prog w = .ok (.agg (ic Ino.zero)) w := by kernel_rfl
section
variable {w0 w W W' : World} {X : Nat → Prop} {p jb N tb m bsn : Nat} {M : Wl} {i b j v : Int} {x : Ino}
theorem ic_set (x : Ino) {k : Nat} (hk : k < 4) (b : Int) : (ic x).setIfInBounds (3 + k) (.int .u16 b) = ic (x.setd k b) := by
  have : k = 0 ∨ k = 1 ∨ k = 2 ∨ k = 3 := by omega
  rcases this with rfl | rfl | rfl | rfl <;> rfl
set_option maxHeartbeats 4000000 in
theorem bset_dir (hm : MayB i b j x v) (hx : x.Wf) (h0 : 0 ≤ v) (h1 : v < 65536) (page : Nat) (hp : page < 4) (W : World) :
    Calls Tryz.prog 26 #[.pointer (some ⟨tb, 0, none⟩), gv i b j, .agg (ic x), .int .i64 page, .int .u16 v] W fun e W' => e = .returned (.tuple #[.agg (ic (x.setd page v)), .int .i64 0]) ∧ Below W.heap.size W W' := by
  have hmy := fun W => bmay_yes hm hx h0 h1 (tb := tb) W
  unfold gv at hmy ⊢
  have hB1 : Below W.heap.size W (((W.alloc (.cells #[.int .i64 i, .int .i64 b, .int .i64 j] 56)).alloc (.cells (ic x) 61)).alloc (.cells (ic Ino.zero) 61)) := bal (bal (bnew _ _) _) _
  have HMY := Lib.hid hmy
  clear hmy hm hx
  have e1 : decide ((page : Int) ≥ 0) = true := decide_eq_true (by omega)
  have e2 : decide ((page : Int) < 36) = true := decide_eq_true (by omega)
  have e3 : decide ((page : Int) < 4) = true := decide_eq_true (by omega)
  unfold ic at *
  go_enter Tryz.func26, Tryz.ntmps26
  go_wp2_with fail
  obtain ⟨W1, hW1⟩ : ∃ W1, ((W.alloc (.cells #[.int .i64 i, .int .i64 b, .int .i64 j] 56)).alloc (.cells #[.int .u8 x.k, .int .u16 x.l, .int .u32 x.s, .int .u16 x.d0, .int .u16 x.d1, .int .u16 x.d2, .int .u16 x.d3, .int .u16 x.n] 61)).alloc (.cells #[.int .u8 0, .int .u16 0, .int .u32 0, .int .u16 0, .int .u16 0, .int .u16 0, .int .u16 0, .int .u16 0] 61) = W1 := ⟨_, rfl⟩
  have b7 : W1.heap[W.heap.size + 1]? = some (.cells #[.int .u8 x.k, .int .u16 x.l, .int .u32 x.s, .int .u16 x.d0, .int .u16 x.d1, .int .u16 x.d2, .int .u16 x.d3, .int .u16 x.n] 61 (0, 0)) := by
    rw [← hW1, hp_old _ _ (by simp), hp_new _ _ (by simp)]
  have b10 : W1.heap[W.heap.size + 1 + 1]? = some (.cells #[.int .u8 0, .int .u16 0, .int .u32 0, .int .u16 0, .int .u16 0, .int .u16 0, .int .u16 0, .int .u16 0] 61 (0, 0)) := by
    rw [← hW1, hp_new _ _ (by simp)]
  have hB1' : Below W.heap.size W W1 := by rw [← hW1]; exact hB1
  simp only [hW1]
  clear hW1 hB1
  refine (HMY.out _).mono ?_
  rintro e w2 ⟨rfl, hB2⟩
  have HB2 := Lib.hid (bt hB1' hB2)
  have c7 := bblk hB2 b7
  have c10 := bblk hB2 b10
  clear hB1' hB2 b7 b10
  obtain ⟨bx, hbx⟩ : ∃ bx, W.heap.size + 1 = bx := ⟨_, rfl⟩
  obtain ⟨br, hbr⟩ : ∃ br, bx + 1 = br := ⟨_, rfl⟩
  rw [hbx] at c7 c10
  rw [hbr] at c10
  simp only [hbx, hbr]
  have HBX : Hid (W.heap.size ≤ bx ∧ W.heap.size ≤ br) := Lib.hid (by omega)
  have hne : bx ≠ br := by omega
  have hne' : br ≠ bx := by omega
  have fz := fz_of c7
  have fz2 := fz_of c10
  have q0 := cl_of c7 0
  have q1 := cl_of c7 1
  have q2 := cl_of c7 2
  have q3 := cl_of c7 3
  have q4 := cl_of c7 4
  have q5 := cl_of c7 5
  have q6 := cl_of c7 6
  have q7 := cl_of c7 7
  have r0 := cl_of c10 0
  have r1 := cl_of c10 1
  have r2 := cl_of c10 2
  have r3 := cl_of c10 3
  have r4 := cl_of c10 4
  have r5 := cl_of c10 5
  have r6 := cl_of c10 6
  have r7 := cl_of c10 7
  clear hbx hbr c7 c10
  have : page = 0 ∨ page = 1 ∨ page = 2 ∨ page = 3 := by omega
  rcases this with rfl | rfl | rfl | rfl
  · go_wp2_with fail
    refine bodyPost_ret (v := .tuple #[.agg (ic (x.setd 0 v)), .int .i64 0]) (by simp [results, Tryz.results26, go_sem, hne, hne', ic, Ino.setd, q0, q1, q2, q3, q4, q5, q6, q7, r0, r1, r2, r3, r4, r5, r6, r7]) rfl ?_
    refine ⟨rfl, ?_⟩
    repeat (refine Below.setCell ?_ (by first | exact HBX.out.1 | exact HBX.out.2) _)
    exact HB2.out
  · go_wp2_with fail
    refine bodyPost_ret (v := .tuple #[.agg (ic (x.setd 1 v)), .int .i64 0]) (by simp [results, Tryz.results26, go_sem, hne, hne', ic, Ino.setd, q0, q1, q2, q3, q4, q5, q6, q7, r0, r1, r2, r3, r4, r5, r6, r7]) rfl ?_
    refine ⟨rfl, ?_⟩
    repeat (refine Below.setCell ?_ (by first | exact HBX.out.1 | exact HBX.out.2) _)
    exact HB2.out
  · go_wp2_with fail
    refine bodyPost_ret (v := .tuple #[.agg (ic (x.setd 2 v)), .int .i64 0]) (by simp [results, Tryz.results26, go_sem, hne, hne', ic, Ino.setd, q0, q1, q2, q3, q4, q5, q6, q7, r0, r1, r2, r3, r4, r5, r6, r7]) rfl ?_
    refine ⟨rfl, ?_⟩
    repeat (refine Below.setCell ?_ (by first | exact HBX.out.1 | exact HBX.out.2) _)
    exact HB2.out
  · go_wp2_with fail
    refine bodyPost_ret (v := .tuple #[.agg (ic (x.setd 3 v)), .int .i64 0]) (by simp [results, Tryz.results26, go_sem, hne, hne', ic, Ino.setd, q0, q1, q2, q3, q4, q5, q6, q7, r0, r1, r2, r3, r4, r5, r6, r7]) rfl ?_
    refine ⟨rfl, ?_⟩
    repeat (refine Below.setCell ?_ (by first | exact HBX.out.1 | exact HBX.out.2) _)
    exact HB2.out
end
end Go.Proofs.YtjjphcnoegaimaaGreat
