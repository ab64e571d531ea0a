/- Package bmap: Begin; Set that is refused. Package bmap: Begin. -/
import Derived.Test.YtjjphcnoegaimaaGreatBm5
namespace Go.Proofs.YtjjphcnoegaimaaGreat
open Go.RowKit Go.Shelf Go.Maps
set_option linter.unusedSimpArgs false
set_option maxRecDepth 20000
set_option linter.unusedVariables false

section
variable {w0 w W W' : World} {X : Nat → Prop} {p jb N tb m bsn : Nat} {M : Wl} {i b j v : Int} {x : Ino}
set_option maxHeartbeats 4000000 in
theorem bset_none (hm : MayB i b j x v) (hx : x.Wf) (hn : x.n = 0) (h0 : 0 ≤ v) (h1 : v < 65536) (page : Nat) (hp4 : 4 ≤ page) (hp : page < 36) (W : World) :
    Calls Tryz.prog 26 #[.pointer (some ⟨tb, 0, none⟩), gv i b j, .agg (ic x), .int .i64 page, .int .u16 v] W fun e W' => e = .returned (.tuple #[.agg (ic Ino.zero), .int .i64 3]) ∧ Below W.heap.size W W' := by
  have hmy := fun W => bmay_yes hm hx h0 h1 (tb := tb) W
  have hnd : needs x page = true := decide_eq_true ⟨by omega, by omega, hn⟩
  have hnn := fun W => needs_any x page W
  rw [hnd] at hnn
  unfold gv at hmy ⊢
  have hB1 : Below W.heap.size W (((W.alloc (.cells #[.int .i64 i, .int .i64 b, .int .i64 j] 56)).alloc (.cells (ic x) 61)).alloc (.cells (ic Ino.zero) 61)) := bal (bal (bnew _ _) _) _
  have HMY := Lib.hid hmy
  have HNN := Lib.hid hnn
  clear hmy hm hx hnn hnd hn
  have e1 : decide ((page : Int) ≥ 0) = true := decide_eq_true (by omega)
  have e2 : decide ((page : Int) < 36) = true := decide_eq_true (by omega)
  have e3 : decide ((page : Int) < 4) = false := decide_eq_false (by omega)
  unfold ic at *
  go_enter Tryz.func26, Tryz.ntmps26
  go_wp2_with fail
  obtain ⟨W1, hW1⟩ : ∃ W1, ((W.alloc (.cells #[.int .i64 i, .int .i64 b, .int .i64 j] 56)).alloc (.cells #[.int .u8 x.k, .int .u16 x.l, .int .u32 x.s, .int .u16 x.d0, .int .u16 x.d1, .int .u16 x.d2, .int .u16 x.d3, .int .u16 x.n] 61)).alloc (.cells #[.int .u8 0, .int .u16 0, .int .u32 0, .int .u16 0, .int .u16 0, .int .u16 0, .int .u16 0, .int .u16 0] 61) = W1 := ⟨_, rfl⟩
  have b7 : W1.heap[W.heap.size + 1]? = some (.cells #[.int .u8 x.k, .int .u16 x.l, .int .u32 x.s, .int .u16 x.d0, .int .u16 x.d1, .int .u16 x.d2, .int .u16 x.d3, .int .u16 x.n] 61 (0, 0)) := by
    rw [← hW1, hp_old _ _ (by simp), hp_new _ _ (by simp)]
  have b10 : W1.heap[W.heap.size + 1 + 1]? = some (.cells #[.int .u8 0, .int .u16 0, .int .u32 0, .int .u16 0, .int .u16 0, .int .u16 0, .int .u16 0, .int .u16 0] 61 (0, 0)) := by
    rw [← hW1, hp_new _ _ (by simp)]
  have hB1' : Below W.heap.size W W1 := by rw [← hW1]; exact hB1
  simp only [hW1]
  clear hW1 hB1
  refine (HMY.out _).mono ?_
  rintro e w2 ⟨rfl, hB2⟩
  have HB2 := Lib.hid (bt hB1' hB2)
  have c7 := bblk hB2 b7
  have c10 := bblk hB2 b10
  clear hB1' hB2 b7 b10
  obtain ⟨bx, hbx⟩ : ∃ bx, W.heap.size + 1 = bx := ⟨_, rfl⟩
  obtain ⟨br, hbr⟩ : ∃ br, bx + 1 = br := ⟨_, rfl⟩
  rw [hbx] at c7 c10
  rw [hbr] at c10
  simp only [hbx, hbr]
  have HBX : Hid (W.heap.size ≤ bx ∧ W.heap.size ≤ br) := Lib.hid (by omega)
  have C10 := Lib.hid c10
  have q0 := cl_of c7 0
  have q1 := cl_of c7 1
  have q2 := cl_of c7 2
  have q3 := cl_of c7 3
  have q4 := cl_of c7 4
  have q5 := cl_of c7 5
  have q6 := cl_of c7 6
  have q7 := cl_of c7 7
  clear hbx hbr c7 c10
  go_wp2_with fail
  refine (HNN.out _).mono ?_
  rintro e w3 ⟨rfl, hB3⟩
  have HB3 := Lib.hid (bt HB2.out hB3)
  have c10 := bblk hB3 C10.out
  clear hB3 q0 q1 q2 q3 q4 q5 q6 q7
  have fz2 := fz_of c10
  have r0 := cl_of c10 0
  have r1 := cl_of c10 1
  have r2 := cl_of c10 2
  have r3 := cl_of c10 3
  have r4 := cl_of c10 4
  have r5 := cl_of c10 5
  have r6 := cl_of c10 6
  have r7 := cl_of c10 7
  clear c10
  go_wp2_with fail
  refine bodyPost_ret (v := .tuple #[.agg (ic Ino.zero), .int .i64 3]) (by simp [results, Tryz.results26, go_sem, ic, Ino.zero, r0, r1, r2, r3, r4, r5, r6, r7]) rfl ?_
  refine ⟨rfl, ?_⟩
  repeat (refine Below.setCell ?_ HBX.out.2 _)
  exact HB3.out
end
end Go.Proofs.YtjjphcnoegaimaaGreat

namespace Go.Proofs.YtjjphcnoegaimaaGreat
open Go.RowKit Go.Shelf Go.Maps
set_option linter.unusedSimpArgs false
set_option maxRecDepth 20000
set_option linter.unusedVariables false

section
variable {w0 w W W' : World} {X : Nat → Prop} {p jb N tb m bsn : Nat} {M : Wl} {i b j v : Int} {x : Ino}
/-- An inode with an indirect block. -/
def Ino.setn (x : Ino) (v : Int) : Ino := { x with n := v }
theorem Ino.setn_wf (hx : x.Wf) (h0 : 0 ≤ v) (h1 : v < 65536) : (x.setn v).Wf := ⟨hx.k, hx.l, hx.s, hx.d0, hx.d1, hx.d2, hx.d3, ⟨h0, h1⟩⟩
set_option maxHeartbeats 4000000 in
theorem bbegin_any (h : TJ w0 X p jb N 0 1 40 0 0 (newS N) tb m M false W) (hg : GeoN i b j N) (hm : MayB i b j x v) (hx : x.Wf) (hn : x.n = 0) (h0 : 1 ≤ v) (h1 : v < 65536) (hb : (bsn : Int) = fr i b j 5 + v - 1) (hfit : (pget bsn M).isSome = true ∨ M.length < 37) :
    Calls Tryz.prog 27 #[.pointer (some ⟨tb, 0, none⟩), gv i b j, .agg (ic x), .int .u16 v] W fun e W' => e = .returned (.tuple #[.agg (ic (x.setn v)), .int .i64 0]) ∧ TJ w0 X p jb N 0 1 40 0 0 (newS N) tb m (pins bsn (tellB []) M) false W' ∧ Kb w0 (fun k => X k ∧ k ≠ m) W W' := by
  have hmy := fun W => bmay_yes hm hx (by omega) h1 (tb := tb) W
  have htl := fun (W2 : World) (X2 : Nat → Prop) (h2 : TJ w0 X2 p jb N 0 1 40 0 0 (newS N) tb m M false W2) => btell_any (zs := []) (v := .slice none 0 0) h2 hg (Ino.setn_wf hx (by omega) h1) hm.v h0 hb ⟨⟨none, 0, rfl, fun h => absurd h (by simp)⟩, fun z hz => by cases hz⟩ (by decide) hfit
  unfold gv at hmy htl ⊢
  have hB1 : Below W.heap.size W (((W.alloc (.cells #[.int .i64 i, .int .i64 b, .int .i64 j] 56)).alloc (.cells (ic x) 61)).alloc (.cells (ic Ino.zero) 61)) := bal (bal (bnew _ _) _) _
  have HMY := Lib.hid hmy
  have HTL := Lib.hid htl
  have HH := Lib.hid h
  have e0 : (x.n == 0) = true := by simpa using hn
  have ev : (v != 0) = true := by simp; omega
  clear hmy hm hx htl h hg hfit hb hn
  unfold ic at *
  go_enter Tryz.func27, Tryz.ntmps27
  go_wp2_with fail
  obtain ⟨W1, hW1⟩ : ∃ W1, ((W.alloc (.cells #[.int .i64 i, .int .i64 b, .int .i64 j] 56)).alloc (.cells #[.int .u8 x.k, .int .u16 x.l, .int .u32 x.s, .int .u16 x.d0, .int .u16 x.d1, .int .u16 x.d2, .int .u16 x.d3, .int .u16 x.n] 61)).alloc (.cells #[.int .u8 0, .int .u16 0, .int .u32 0, .int .u16 0, .int .u16 0, .int .u16 0, .int .u16 0, .int .u16 0] 61) = W1 := ⟨_, rfl⟩
  have b6 : W1.heap[W.heap.size]? = some (.cells #[.int .i64 i, .int .i64 b, .int .i64 j] 56 (0, 0)) := by
    rw [← hW1, hp_old _ _ (by simp; omega), hp_old _ _ (by simp), hp_new _ _ rfl]
  have b7 : W1.heap[W.heap.size + 1]? = some (.cells #[.int .u8 x.k, .int .u16 x.l, .int .u32 x.s, .int .u16 x.d0, .int .u16 x.d1, .int .u16 x.d2, .int .u16 x.d3, .int .u16 x.n] 61 (0, 0)) := by
    rw [← hW1, hp_old _ _ (by simp), hp_new _ _ (by simp)]
  have b10 : W1.heap[W.heap.size + 1 + 1]? = some (.cells #[.int .u8 0, .int .u16 0, .int .u32 0, .int .u16 0, .int .u16 0, .int .u16 0, .int .u16 0, .int .u16 0] 61 (0, 0)) := by
    rw [← hW1, hp_new _ _ (by simp)]
  have hB1' : Below W.heap.size W W1 := by rw [← hW1]; exact hB1
  simp only [hW1]
  clear hW1 hB1
  refine (HMY.out _).mono ?_
  rintro e w2 ⟨rfl, hB2⟩
  have HB2 := Lib.hid (bt hB1' hB2)
  have c6 := bblk hB2 b6
  have c7 := bblk hB2 b7
  have c10 := bblk hB2 b10
  clear hB1' hB2 b6 b7 b10
  obtain ⟨bg, hbg⟩ : ∃ bg, W.heap.size = bg := ⟨_, rfl⟩
  obtain ⟨bx, hbx⟩ : ∃ bx, bg + 1 = bx := ⟨_, rfl⟩
  obtain ⟨br, hbr⟩ : ∃ br, bx + 1 = br := ⟨_, rfl⟩
  rw [hbg] at c6 c7 c10
  rw [hbx] at c7 c10
  rw [hbr] at c10
  simp only [hbg, hbx, hbr]
  have HBX : Hid (W.heap.size = bg ∧ bg + 1 = bx ∧ bx + 1 = br) := Lib.hid ⟨hbg, hbx, hbr⟩
  have h7 := cl_of c7 7
  have f7 := fz_of c7 7
  obtain ⟨W5, hW5⟩ : ∃ W5, w2.setCell ⟨bx, 7, none⟩ (.int .u16 v) = W5 := ⟨_, rfl⟩
  have hB5 : Below W.heap.size W W5 := by rw [← hW5]; exact HB2.out.setCell (by show W.heap.size ≤ bx; omega) _
  have hk5 : ∀ k, k ≠ bx → W5.heap[k]? = w2.heap[k]? := fun k hk => by rw [← hW5]; exact Below.heap_setCell w2 ⟨bx, 7, none⟩ _ k hk
  have d6 := (hk5 bg (by omega)).trans c6
  have d10 := (hk5 br (by omega)).trans c10
  have d7 : W5.heap[bx]? = some (.cells #[.int .u8 x.k, .int .u16 x.l, .int .u32 x.s, .int .u16 x.d0, .int .u16 x.d1, .int .u16 x.d2, .int .u16 x.d3, .int .u16 v] 61 (0, 0)) := by
    rw [← hW5, blk_here c7 7]; rfl
  have htl5 := HTL.out W5 _ (HH.out.take hB5)
  unfold Ino.setn at htl5
  dsimp only [ic] at htl5
  have HTL5 := Lib.hid htl5
  have D7 := Lib.hid d7
  have D10 := Lib.hid d10
  have HX5 : Hid (∀ k, W.heap.size ≤ k → k ≤ br → k < W5.heap.size ∧ k ≠ m) := Lib.hid (fun k h1 h2 => by
    have := blk_lt d10
    have := HH.out.t.mlt
    omega)
  have HB5 := Lib.hid hB5
  have g0 := cl_of d6 0
  have g1 := cl_of d6 1
  have g2 := cl_of d6 2
  have q0 := cl_of d7 0
  have q1 := cl_of d7 1
  have q2 := cl_of d7 2
  have q3 := cl_of d7 3
  have q4 := cl_of d7 4
  have q5 := cl_of d7 5
  have q6 := cl_of d7 6
  have q7 := cl_of d7 7
  clear c6 c10 d6 d7 d10 htl5 hk5 hB5 hbg hbx hbr HTL HMY
  have p7 : w2.cell? ⟨bx, 7, none⟩ = some (.int .u16 x.n) := h7
  clear c7
  go_wp2_with fail
  refine HTL5.out.mono ?_
  rintro e w6 ⟨rfl, hT6, hK6⟩
  have hbx := HBX.out
  have x7 := HX5.out bx (by omega) (by omega)
  have x10 := HX5.out br (by omega) (by omega)
  have d7 := (hK6 bx (.inr ⟨.inr ⟨by omega, x7.1⟩, x7.2⟩)).trans D7.out
  have d10 := (hK6 br (.inr ⟨.inr ⟨by omega, x10.1⟩, x10.2⟩)).trans D10.out
  have hw0 := HH.out.j.dev.below.size
  have hnj := blk_lt HH.out.j.obj
  have hnt := blk_lt HH.out.t.obj
  have HSET : Hid (∀ (W8 : World) (o : Nat) (u : Value), TJ w0 (fun k => X k ∨ W.heap.size ≤ k ∧ k < W5.heap.size) p jb N 0 1 40 0 0 (newS N) tb m (pins bsn (tellB []) M) false W8 → TJ w0 (fun k => X k ∨ W.heap.size ≤ k ∧ k < W5.heap.size) p jb N 0 1 40 0 0 (newS N) tb m (pins bsn (tellB []) M) false (W8.setCell ⟨br, o, none⟩ u)) := Lib.hid (fun W8 o u h8 => h8.setC (.inr ⟨by omega, x10.1⟩) (by omega) (by omega) (by omega) x10.2 o u)
  have HKS : Hid (∀ (W8 : World) (o : Nat) (u : Value), Kb w0 (fun k => X k ∧ k ≠ m) W W8 → Kb w0 (fun k => X k ∧ k ≠ m) W (W8.setCell ⟨br, o, none⟩ u)) := Lib.hid (fun W8 o u h8 => h8.t (fun k hk => kb_set o u k (fun e => by
    rcases hk with hk | hk
    · omega
    · have := HH.out.j.dev.lt k hk.1; omega)))
  have HT6 := Lib.hid hT6
  have HK6 : Hid (Kb w0 (fun k => X k ∧ k ≠ m) W w6) := Lib.hid ((Kb.less (HH.out.j.dev.kbelow HB5.out) (fun _ h => h.1)).t (hK6.less (fun k h => ⟨.inl h.1, h.2⟩)))
  have hne : bx ≠ br := by omega
  have hne' : br ≠ bx := by omega
  have fz2 := fz_of d10
  have r0 := cl_of d10 0
  have r1 := cl_of d10 1
  have r2 := cl_of d10 2
  have r3 := cl_of d10 3
  have r4 := cl_of d10 4
  have r5 := cl_of d10 5
  have r6 := cl_of d10 6
  have r7 := cl_of d10 7
  have s0 := cl_of d7 0
  have s1 := cl_of d7 1
  have s2 := cl_of d7 2
  have s3 := cl_of d7 3
  have s4 := cl_of d7 4
  have s5 := cl_of d7 5
  have s6 := cl_of d7 6
  have s7 := cl_of d7 7
  clear g0 g1 g2 q0 q1 q2 q3 q4 q5 q6 q7 hT6 hK6 d7 d10 hbx x7 x10 hw0 hnj hnt h7 f7 p7 hW5
  go_wp2_with fail
  refine bodyPost_ret (v := .tuple #[.agg (ic (x.setn v)), .int .i64 0]) (by simp [results, Tryz.results27, go_sem, hne, hne', ic, Ino.setn, s0, s1, s2, s3, s4, s5, s6, s7, r0, r1, r2, r3, r4, r5, r6, r7]) rfl ?_
  refine ⟨rfl, ?_, ?_⟩
  · refine TJ.less (X := fun k => X k ∨ W.heap.size ≤ k ∧ k < W5.heap.size) ?_ (fun _ h => .inl h) HH.out.j.own HH.out.xt HH.out.xm
    repeat (refine HSET.out _ _ _ ?_)
    exact HT6.out
  · repeat (refine HKS.out _ _ _ ?_)
    exact HK6.out
end
end Go.Proofs.YtjjphcnoegaimaaGreat
