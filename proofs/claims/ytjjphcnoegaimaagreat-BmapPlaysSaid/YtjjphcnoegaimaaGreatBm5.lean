/- Package bmap: Set of a page that an indirect block tells. -/
import Derived.Test.YtjjphcnoegaimaaGreatBm4
import Derived.Test.YtjjphcnoegaimaaGreatGots
namespace Go.Proofs.YtjjphcnoegaimaaGreat
open Go.RowKit Go.Shelf Go.Maps
set_option linter.unusedSimpArgs false
set_option maxRecDepth 20000
set_option linter.unusedVariables false

section
variable {w0 w W W' : World} {X : Nat → Prop} {p jb N tb m bsn : Nat} {M : Wl} {i b j v : Int} {x : Ino}
theorem toldL_wf (x : Ino) (M : Wl) (bs : Nat) : ∀ z ∈ toldL x M bs, (Lit.int .u16 z).wf = true := by
  intro z hz
  unfold toldL at hz
  split at hz
  · rw [List.mem_replicate] at hz
    rw [hz.2]; decide
  · exact gots_wf _ z hz
theorem TJ.setC {B fr n g r : Nat} {s : DS} {dn : Bool} (h : TJ w0 X p jb N B fr n g r s tb m M dn W) {b : Nat} (hb : X b) (hw : w0.heap.size ≤ b) (h1 : b ≠ jb) (h2 : b ≠ tb) (h3 : b ≠ m) (o : Nat) (u : Value) : TJ w0 X p jb N B fr n g r s tb m M dn (W.setCell ⟨b, o, none⟩ u) :=
  ⟨h.j.set hb hw h1 o u, h.t.keep (kb_set o u tb (fun e => h2 e.symm)) (kb_set o u m (fun e => h3 e.symm)), h.xt, h.xm, h.gt, h.gm⟩
/-- What was written behind a set. -/
def setM (x : Ino) (M : Wl) (bs : Nat) (page : Nat) (v : Int) : Wl := pins bs (tellB ((toldL x M bs).set (page - 4) v)) M
set_option maxHeartbeats 4000000 in
theorem bset_ind (h : TJ w0 X p jb N 0 1 40 0 0 (newS N) tb m M false W) (hg : GeoN i b j N) (hm : MayB i b j x v) (hx : x.Wf) (hs : Sz M) (hn1 : 1 ≤ x.n) (hb : (bsn : Int) = fr i b j 5 + x.n - 1) (h0 : 0 ≤ v) (h1 : v < 65536) (page : Nat) (hp4 : 4 ≤ page) (hp : page < 36) (hfit : (pget bsn M).isSome = true ∨ M.length < 37) :
    Calls Tryz.prog 26 #[.pointer (some ⟨tb, 0, none⟩), gv i b j, .agg (ic x), .int .i64 page, .int .u16 v] W fun e W' => e = .returned (.tuple #[.agg (ic x), .int .i64 0]) ∧ TJ w0 X p jb N 0 1 40 0 0 (newS N) tb m (setM x M bsn page v) false W' ∧ Kb w0 (fun k => X k ∧ k ≠ m) W W' := by
  have hmy := fun W => bmay_yes hm hx h0 h1 (tb := tb) W
  have hnd : needs x page = false := decide_eq_false (fun h => by omega)
  have hnn := fun W => needs_any x page W
  rw [hnd] at hnn
  have htd := fun (W2 : World) (hB : Below W.heap.size W W2) => btold_any (h.of hB) hg hx hm.n hs (fun _ => hb)
  have hlen := toldL_length x hs bsn
  have htl := fun (W2 : World) (X2 : Nat → Prop) (h2 : TJ w0 X2 p jb N 0 1 40 0 0 (newS N) tb m M false W2) (l : Value) (hv : SlI .u16 W2 l ((toldL x M bsn).set (page - 4) v)) => btell_any h2 hg hx hm.n hn1 hb hv (by rw [List.length_set, hlen]; decide) hfit
  unfold gv at hmy htd htl ⊢
  have hB1 : Below W.heap.size W (((W.alloc (.cells #[.int .i64 i, .int .i64 b, .int .i64 j] 56)).alloc (.cells (ic x) 61)).alloc (.cells (ic Ino.zero) 61)) := bal (bal (bnew _ _) _) _
  have HMY := Lib.hid hmy
  have HNN := Lib.hid hnn
  have HTD := Lib.hid htd
  have HTL := Lib.hid htl
  have HH := Lib.hid h
  clear hmy hm hx hnn htd htl h hs hg hfit hb hnd
  have e1 : decide ((page : Int) ≥ 0) = true := decide_eq_true (by omega)
  have e2 : decide ((page : Int) < 36) = true := decide_eq_true (by omega)
  have e3 : decide ((page : Int) < 4) = false := decide_eq_false (by omega)
  unfold ic at *
  go_enter Tryz.func26, Tryz.ntmps26
  go_wp2_with fail
  obtain ⟨W1, hW1⟩ : ∃ W1, ((W.alloc (.cells #[.int .i64 i, .int .i64 b, .int .i64 j] 56)).alloc (.cells #[.int .u8 x.k, .int .u16 x.l, .int .u32 x.s, .int .u16 x.d0, .int .u16 x.d1, .int .u16 x.d2, .int .u16 x.d3, .int .u16 x.n] 61)).alloc (.cells #[.int .u8 0, .int .u16 0, .int .u32 0, .int .u16 0, .int .u16 0, .int .u16 0, .int .u16 0, .int .u16 0] 61) = W1 := ⟨_, rfl⟩
  have b6 : W1.heap[W.heap.size]? = some (.cells #[.int .i64 i, .int .i64 b, .int .i64 j] 56 (0, 0)) := by
    rw [← hW1, hp_old _ _ (by simp; omega), hp_old _ _ (by simp), hp_new _ _ rfl]
  have b7 : W1.heap[W.heap.size + 1]? = some (.cells #[.int .u8 x.k, .int .u16 x.l, .int .u32 x.s, .int .u16 x.d0, .int .u16 x.d1, .int .u16 x.d2, .int .u16 x.d3, .int .u16 x.n] 61 (0, 0)) := by
    rw [← hW1, hp_old _ _ (by simp), hp_new _ _ (by simp)]
  have b10 : W1.heap[W.heap.size + 1 + 1]? = some (.cells #[.int .u8 0, .int .u16 0, .int .u32 0, .int .u16 0, .int .u16 0, .int .u16 0, .int .u16 0, .int .u16 0] 61 (0, 0)) := by
    rw [← hW1, hp_new _ _ (by simp)]
  have hB1' : Below W.heap.size W W1 := by rw [← hW1]; exact hB1
  simp only [hW1]
  clear hW1 hB1
  refine (HMY.out _).mono ?_
  rintro e w2 ⟨rfl, hB2⟩
  have HB2 := Lib.hid (bt hB1' hB2)
  have c6 := bblk hB2 b6
  have c7 := bblk hB2 b7
  have c10 := bblk hB2 b10
  clear hB1' hB2 b6 b7 b10
  obtain ⟨bg, hbg⟩ : ∃ bg, W.heap.size = bg := ⟨_, rfl⟩
  obtain ⟨bx, hbx⟩ : ∃ bx, bg + 1 = bx := ⟨_, rfl⟩
  obtain ⟨br, hbr⟩ : ∃ br, bx + 1 = br := ⟨_, rfl⟩
  rw [hbg] at c6 c7 c10
  rw [hbx] at c7 c10
  rw [hbr] at c10
  simp only [hbg, hbx, hbr]
  have HBX : Hid (W.heap.size = bg ∧ bg + 1 = bx ∧ bx + 1 = br) := Lib.hid ⟨hbg, hbx, hbr⟩
  clear hbg hbx hbr
  have C6 := Lib.hid c6
  have C7 := Lib.hid c7
  have C10 := Lib.hid c10
  have g0 := cl_of c6 0
  have g1 := cl_of c6 1
  have g2 := cl_of c6 2
  have q0 := cl_of c7 0
  have q1 := cl_of c7 1
  have q2 := cl_of c7 2
  have q3 := cl_of c7 3
  have q4 := cl_of c7 4
  have q5 := cl_of c7 5
  have q6 := cl_of c7 6
  have q7 := cl_of c7 7
  clear c6 c7 c10
  go_wp2_with fail
  refine (HNN.out _).mono ?_
  rintro e w3 ⟨rfl, hB3⟩
  have HB3 := Lib.hid (bt HB2.out hB3)
  have c6 := bblk hB3 C6.out
  have c7 := bblk hB3 C7.out
  have c10 := bblk hB3 C10.out
  clear hB3 g0 g1 g2 q0 q1 q2 q3 q4 q5 q6 q7 C6 C7 C10
  have C6 := Lib.hid c6
  have C7 := Lib.hid c7
  have C10 := Lib.hid c10
  have g0 := cl_of c6 0
  have g1 := cl_of c6 1
  have g2 := cl_of c6 2
  have q0 := cl_of c7 0
  have q1 := cl_of c7 1
  have q2 := cl_of c7 2
  have q3 := cl_of c7 3
  have q4 := cl_of c7 4
  have q5 := cl_of c7 5
  have q6 := cl_of c7 6
  have q7 := cl_of c7 7
  clear c6 c7 c10
  go_wp2_with fail
  refine (HTD.out _ HB3.out).mono ?_
  rintro e w4 ⟨lv, rfl, hrow, hB4⟩
  have HB4 := Lib.hid (bt HB3.out hB4)
  have c6 := bblk hB4 C6.out
  have c7 := bblk hB4 C7.out
  have c10 := bblk hB4 C10.out
  have hs10 := blk_lt C10.out
  clear hB4 g0 g1 g2 q0 q1 q2 q3 q4 q5 q6 q7 C6 C7 C10
  obtain ⟨g, cap, rfl⟩ : ∃ g cap, lv = .slice (some ⟨g, 0, none⟩) 32 cap := by
    rcases hrow.2 with ⟨rfl, h0⟩ | ⟨g, c, cur, rfl, _⟩
    · omega
    · exact ⟨_, _, rfl⟩
  have hgr : w3.heap.size ≤ g := by
    rcases hrow.2 with ⟨e, _⟩ | ⟨g', c, cur, e, h0, _⟩
    · cases e
    · cases e; exact h0
  obtain ⟨q, hq⟩ : ∃ q, page - 4 = q := ⟨_, rfl⟩
  rw [hq] at HTL
  have hsb : IntKind.i64.wrap ((page : Int) - 4) = (q : Int) := by rw [i64_sm (by omega) (by omega)]; omega
  have hq32 : q < 32 := by omega
  have hrow0 := ownsRow_base hrow
  obtain ⟨cur, hgb⟩ := ownsRow_type hrow0 rfl
  have hgq : w4.cell? ⟨g, q, none⟩ = some (.int .u16 ((toldL x M bsn).getD q 0)) := ownsRow_cell hrow0 rfl (u16s_get _ (by rw [hlen]; exact hq32))
  have hgf := fz_of hgb q
  obtain ⟨W5, hW5⟩ : ∃ W5, w4.setCell ⟨g, q, none⟩ (.int .u16 v) = W5 := ⟨_, rfl⟩
  have hB5 : Below W.heap.size W W5 := by rw [← hW5]; exact HB4.out.setCell (Nat.le_trans HB3.out.size hgr) _
  have hr5 := ownsRow_set hrow0 q (.int .u16 v)
  rw [hW5] at hr5
  have hu5 : (u16s (toldL x M bsn)).set q (.int .u16 v) = u16s ((toldL x M bsn).set q v) := by simp [u16s, List.map_set]
  rw [hu5] at hr5
  have hsl : SlI .u16 W5 (.slice (some ⟨g, 0, none⟩) 32 cap) ((toldL x M bsn).set q v) := by
    refine ⟨⟨_, cap, by rw [List.length_set, hlen], fun _ => ⟨g, 0, rfl, ownsRow_lt hr5 rfl, fun k hk => ?_⟩⟩, fun z hz => ?_⟩
    · rw [Nat.zero_add]
      exact ownsRow_cell hr5 rfl (u16s_get _ hk)
    · rcases List.mem_or_eq_of_mem_set hz with hz | hz
      · exact toldL_wf x M bsn z hz
      · rw [hz]; simp [Lit.wf, IntKind.min, IntKind.max, IntKind.signed, IntKind.bits]; omega
  have hT5 := HH.out.take hB5
  have htl5 := HTL.out W5 _ hT5 _ hsl
  have hk5 : ∀ k, k ≠ g → W5.heap[k]? = w4.heap[k]? := fun k hk => by rw [← hW5]; exact Below.heap_setCell w4 ⟨g, q, none⟩ _ k hk
  have hbx := HBX.out
  have d6 := (hk5 bg (by omega)).trans c6
  have d7 := (hk5 bx (by omega)).trans c7
  have d10 := (hk5 br (by omega)).trans c10
  have HQ := Lib.hid hq
  have HTL5 := Lib.hid htl5
  have D7 := Lib.hid d7
  have D10 := Lib.hid d10
  have HX5 : Hid (∀ k, W.heap.size ≤ k → k ≤ br → k < W5.heap.size ∧ k ≠ m) := Lib.hid (fun k h1 h2 => by
    have := blk_lt d10
    have := HH.out.t.mlt
    omega)
  have HB5 := Lib.hid hB5
  have g0 := cl_of d6 0
  have g1 := cl_of d6 1
  have g2 := cl_of d6 2
  have q0 := cl_of d7 0
  have q1 := cl_of d7 1
  have q2 := cl_of d7 2
  have q3 := cl_of d7 3
  have q4 := cl_of d7 4
  have q5 := cl_of d7 5
  have q6 := cl_of d7 6
  have q7 := cl_of d7 7
  clear c6 c7 c10 d6 d7 d10 hrow hrow0 hgb hr5 hu5 hsl hT5 htl5 hk5 hB5 hbx hq hlen HTL HTD HNN HMY
  go_wp2_with fail
  refine HTL5.out.mono ?_
  rintro e w6 ⟨rfl, hT6, hK6⟩
  have hbx := HBX.out
  have x7 := HX5.out bx (by omega) (by omega)
  have x10 := HX5.out br (by omega) (by omega)
  have d7 := (hK6 bx (.inr ⟨.inr ⟨by omega, x7.1⟩, x7.2⟩)).trans D7.out
  have d10 := (hK6 br (.inr ⟨.inr ⟨by omega, x10.1⟩, x10.2⟩)).trans D10.out
  have hw0 := HH.out.j.dev.below.size
  have hnj := blk_lt HH.out.j.obj
  have hnt := blk_lt HH.out.t.obj
  have HSET : Hid (∀ (W8 : World) (o : Nat) (u : Value), TJ w0 (fun k => X k ∨ W.heap.size ≤ k ∧ k < W5.heap.size) p jb N 0 1 40 0 0 (newS N) tb m (setM x M bsn page v) false W8 → TJ w0 (fun k => X k ∨ W.heap.size ≤ k ∧ k < W5.heap.size) p jb N 0 1 40 0 0 (newS N) tb m (setM x M bsn page v) false (W8.setCell ⟨br, o, none⟩ u)) := Lib.hid (fun W8 o u h8 => h8.setC (.inr ⟨by omega, x10.1⟩) (by omega) (by omega) (by omega) x10.2 o u)
  have HKS : Hid (∀ (W8 : World) (o : Nat) (u : Value), Kb w0 (fun k => X k ∧ k ≠ m) W W8 → Kb w0 (fun k => X k ∧ k ≠ m) W (W8.setCell ⟨br, o, none⟩ u)) := Lib.hid (fun W8 o u h8 => h8.t (fun k hk => kb_set o u k (fun e => by
    rcases hk with hk | hk
    · omega
    · have := HH.out.j.dev.lt k hk.1; omega)))
  have HT6 : Hid (TJ w0 (fun k => X k ∨ W.heap.size ≤ k ∧ k < W5.heap.size) p jb N 0 1 40 0 0 (newS N) tb m (setM x M bsn page v) false w6) := Lib.hid (by unfold setM; rw [HQ.out]; exact hT6)
  have HK6 : Hid (Kb w0 (fun k => X k ∧ k ≠ m) W w6) := Lib.hid ((Kb.less (HH.out.j.dev.kbelow HB5.out) (fun _ h => h.1)).t (hK6.less (fun k h => ⟨.inl h.1, h.2⟩)))
  have hne : bx ≠ br := by omega
  have hne' : br ≠ bx := by omega
  have fz2 := fz_of d10
  have r0 := cl_of d10 0
  have r1 := cl_of d10 1
  have r2 := cl_of d10 2
  have r3 := cl_of d10 3
  have r4 := cl_of d10 4
  have r5 := cl_of d10 5
  have r6 := cl_of d10 6
  have r7 := cl_of d10 7
  have s0 := cl_of d7 0
  have s1 := cl_of d7 1
  have s2 := cl_of d7 2
  have s3 := cl_of d7 3
  have s4 := cl_of d7 4
  have s5 := cl_of d7 5
  have s6 := cl_of d7 6
  have s7 := cl_of d7 7
  clear g0 g1 g2 q0 q1 q2 q3 q4 q5 q6 q7 hT6 hK6 d7 d10 hbx x7 x10 hw0 hnj hnt
  go_wp2_with fail
  refine bodyPost_ret (v := .tuple #[.agg (ic x), .int .i64 0]) (by simp [results, Tryz.results26, go_sem, hne, hne', ic, s0, s1, s2, s3, s4, s5, s6, s7, r0, r1, r2, r3, r4, r5, r6, r7]) rfl ?_
  refine ⟨rfl, ?_, ?_⟩
  · refine TJ.less (X := fun k => X k ∨ W.heap.size ≤ k ∧ k < W5.heap.size) ?_ (fun _ h => .inl h) HH.out.j.own HH.out.xt HH.out.xm
    repeat (refine HSET.out _ _ _ ?_)
    exact HT6.out
  · repeat (refine HKS.out _ _ _ ?_)
    exact HK6.out
end
end Go.Proofs.YtjjphcnoegaimaaGreat
