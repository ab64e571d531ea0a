/- Package bmap: Begin; Set that is refused. -/
import Derived.Test.YtjjphcnoegaimaaGreatBm5
namespace Go.Proofs.YtjjphcnoegaimaaGreat
open Go.RowKit Go.Shelf Go.Maps
set_option linter.unusedSimpArgs false
set_option maxRecDepth 20000
set_option linter.unusedVariables false

section
variable {w0 w W W' : World} {X : Nat → Prop} {p jb N tb m bsn : Nat} {M : Wl} {i b j v : Int} {x : Ino}
set_option maxHeartbeats 4000000 in
theorem bset_none (hm : MayB i b j x v) (hx : x.Wf) (hn : x.n = 0) (h0 : 0 ≤ v) (h1 : v < 65536) (page : Nat) (hp4 : 4 ≤ page) (hp : page < 36) (W : World) :
    Calls Tryz.prog 26 #[.pointer (some ⟨tb, 0, none⟩), gv i b j, .agg (ic x), .int .i64 page, .int .u16 v] W fun e W' => e = .returned (.tuple #[.agg (ic Ino.zero), .int .i64 3]) ∧ Below W.heap.size W W' := by
  have hmy := fun W => bmay_yes hm hx h0 h1 (tb := tb) W
  have hnd : needs x page = true := decide_eq_true ⟨by omega, by omega, hn⟩
  have hnn := fun W => needs_any x page W
  rw [hnd] at hnn
  unfold gv at hmy ⊢
  have hB1 : Below W.heap.size W (((W.alloc (.cells #[.int .i64 i, .int .i64 b, .int .i64 j] 56)).alloc (.cells (ic x) 61)).alloc (.cells (ic Ino.zero) 61)) := bal (bal (bnew _ _) _) _
  have HMY := Lib.hid hmy
  have HNN := Lib.hid hnn
  clear hmy hm hx hnn hnd hn
  have e1 : decide ((page : Int) ≥ 0) = true := decide_eq_true (by omega)
  have e2 : decide ((page : Int) < 36) = true := decide_eq_true (by omega)
  have e3 : decide ((page : Int) < 4) = false := decide_eq_false (by omega)
  unfold ic at *
  go_enter Tryz.func26, Tryz.ntmps26
  go_wp2_with fail
  obtain ⟨W1, hW1⟩ : ∃ W1, ((W.alloc (.cells #[.int .i64 i, .int .i64 b, .int .i64 j] 56)).alloc (.cells #[.int .u8 x.k, .int .u16 x.l, .int .u32 x.s, .int .u16 x.d0, .int .u16 x.d1, .int .u16 x.d2, .int .u16 x.d3, .int .u16 x.n] 61)).alloc (.cells #[.int .u8 0, .int .u16 0, .int .u32 0, .int .u16 0, .int .u16 0, .int .u16 0, .int .u16 0, .int .u16 0] 61) = W1 := ⟨_, rfl⟩
  have b7 : W1.heap[W.heap.size + 1]? = some (.cells #[.int .u8 x.k, .int .u16 x.l, .int .u32 x.s, .int .u16 x.d0, .int .u16 x.d1, .int .u16 x.d2, .int .u16 x.d3, .int .u16 x.n] 61 (0, 0)) := by
    rw [← hW1, hp_old _ _ (by simp), hp_new _ _ (by simp)]
  have b10 : W1.heap[W.heap.size + 1 + 1]? = some (.cells #[.int .u8 0, .int .u16 0, .int .u32 0, .int .u16 0, .int .u16 0, .int .u16 0, .int .u16 0, .int .u16 0] 61 (0, 0)) := by
    rw [← hW1, hp_new _ _ (by simp)]
  have hB1' : Below W.heap.size W W1 := by rw [← hW1]; exact hB1
  simp only [hW1]
  clear hW1 hB1
  refine (HMY.out _).mono ?_
  rintro e w2 ⟨rfl, hB2⟩
  have HB2 := Lib.hid (bt hB1' hB2)
  have c7 := bblk hB2 b7
  have c10 := bblk hB2 b10
  clear hB1' hB2 b7 b10
  obtain ⟨bx, hbx⟩ : ∃ bx, W.heap.size + 1 = bx := ⟨_, rfl⟩
  obtain ⟨br, hbr⟩ : ∃ br, bx + 1 = br := ⟨_, rfl⟩
  rw [hbx] at c7 c10
  rw [hbr] at c10
  simp only [hbx, hbr]
  have HBX : Hid (W.heap.size ≤ bx ∧ W.heap.size ≤ br) := Lib.hid (by omega)
  have C10 := Lib.hid c10
  have q0 := cl_of c7 0
  have q1 := cl_of c7 1
  have q2 := cl_of c7 2
  have q3 := cl_of c7 3
  have q4 := cl_of c7 4
  have q5 := cl_of c7 5
  have q6 := cl_of c7 6
  have q7 := cl_of c7 7
  clear hbx hbr c7 c10
  go_wp2_with fail
  refine (HNN.out _).mono ?_
  rintro e w3 ⟨rfl, hB3⟩
  have HB3 := Lib.hid (bt HB2.out hB3)
  have c10 := bblk hB3 C10.out
  clear hB3 q0 q1 q2 q3 q4 q5 q6 q7
  have fz2 := fz_of c10
  have r0 := cl_of c10 0
  have r1 := cl_of c10 1
  have r2 := cl_of c10 2
  have r3 := cl_of c10 3
  have r4 := cl_of c10 4
  have r5 := cl_of c10 5
  have r6 := cl_of c10 6
  have r7 := cl_of c10 7
  clear c10
  go_wp2_with fail
  refine bodyPost_ret (v := .tuple #[.agg (ic Ino.zero), .int .i64 3]) (by simp [results, Tryz.results26, go_sem, ic, Ino.zero, r0, r1, r2, r3, r4, r5, r6, r7]) rfl ?_
  refine ⟨rfl, ?_⟩
  repeat (refine Below.setCell ?_ HBX.out.2 _)
  exact HB3.out
end
end Go.Proofs.YtjjphcnoegaimaaGreat
