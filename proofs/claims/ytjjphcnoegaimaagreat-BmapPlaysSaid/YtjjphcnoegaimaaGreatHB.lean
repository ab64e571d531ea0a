/- lunettelaw09: told, blank; Made of a geometry that may not be. lunettelaw09.does: the transaction and the document's side by side, as one predicate of a world. lunettelaw09.does: what its steps share. lunettelaw09.does: Cut, All. lunettelaw09.does: a block is written; every step. A geometry, an inode that come in; steps behind others. lunettelaw09.BmapPlays: what its loop keeps. -/
import Derived.Test.YtjjphcnoegaimaaGreatHA
import Derived.Test.YtjjphcnoegaimaaGreatGZ
import Derived.Test.YtjjphcnoegaimaaGreatTxAtom0
import Derived.Test.YtjjphcnoegaimaaGreatHF
import Derived.Lib.SmallJoins
import Derived.OpenShut
import Derived.Deep.DeepCutAuto
namespace Go.Proofs.YtjjphcnoegaimaaGreat
open Go.RowKit Go.Shelf Go.Maps
set_option maxRecDepth 20000
set_option linter.unusedVariables false
set_option linter.unusedSimpArgs false

theorem zsec_bs : bs (zeros 64) = zsec := rfl
/-- A block's bytes, that tell blocks. -/
def toldB (zs : List Int) : ByteArray := if zs.length ≤ 32 then tellB zs else zsec
theorem toldB_size (zs : List Int) : (toldB zs).size = 64 := by
  unfold toldB
  split
  · exact tellB_size zs (by assumption)
  · rfl
set_option maxHeartbeats 1000000 in
theorem told9_any {v : Value} {zs : List Int} {w : World} (h : SlI .u16 w v zs) : Calls Tryz.prog 68 #[v] w fun e w' => e = .returned (.string (toldB zs)) ∧ Below w.heap.size w w' := by
  have ht := rtell_any h
  have HT := Lib.hid ht
  obtain ⟨ao, cap, rfl⟩ : ∃ ao cap, v = .slice ao zs.length cap := by obtain ⟨⟨ao, cap, e, _⟩, _⟩ := h; exact ⟨ao, cap, e⟩
  have hmk : ∀ W : World, (Instr.makeSlice 137 (.int .i64 64) (.int .i64 64)).run Tryz.prog W = .ok (.slice (some ⟨W.heap.size, 0, none⟩) 64 64) (W.alloc (.cells (bc (zeros 64)) 5)) := fun W => make_zeros 64 (by decide) W
  have hcv := fun W => conv_new (zeros 64) 64 (zeros_length 64) W
  clear h ht
  go_enter Tryz.func68, Tryz.ntmps68
  go_wp2_with fail
  refine HT.out.mono ?_
  rintro e w1 ⟨⟨T, z, rfl, hT⟩, hB⟩
  have HB := Lib.hid hB
  clear hB
  rcases hT with ⟨rfl, hl, rfl⟩ | ⟨rfl, hl, rfl⟩
  · have HS : Hid (toldB zs = bs (pby zs ++ zeros (64 - 2 * zs.length))) := Lib.hid (by rw [toldB, if_pos hl]; rfl)
    clear hl
    go_wp2_with fail
    go_ret
    exact ⟨by rw [HS.out]; rfl, HB.out⟩
  · have HS : Hid (toldB zs = bs (zeros 64)) := Lib.hid (by rw [toldB, if_neg (by omega)]; rfl)
    clear hl
    go_wp2_with fail
    go_ret
    exact ⟨by rw [HS.out]; rfl, bal HB.out _⟩
/-- While the sectors of noughts are laid. -/
structure BlI (W : World) (sb N k : Nat) (wr : World) : Prop where
  row : wr.heap[sb]? = some (.cells ((List.replicate k (Value.string zsec)) ++ List.replicate (N - k) (Value.string ByteArray.empty)).toArray 9 (0, 0))
  below : Below W.heap.size W wr
  le : W.heap.size ≤ sb
theorem BlI.next {W wr : World} {sb N k : Nat} (h : BlI W sb N k wr) (hk : k < N) (o : Obj) : BlI W sb N (k + 1) ((wr.alloc o).setCell ⟨sb, k, none⟩ (.string zsec)) := by
  have h1 := (hp_old wr o (blk_lt h.row)).trans h.row
  refine ⟨(blk_here h1 k _).trans ?_, (bal h.below _).setCell (p := ⟨sb, k, none⟩) h.le _, h.le⟩
  congr 2
  apply Array.ext'
  rw [Array.toList_setIfInBounds]
  show (List.replicate k (Value.string zsec) ++ List.replicate (N - k) (Value.string ByteArray.empty)).set k (.string zsec) = _
  rw [List.set_append_right _ _ (by simp), List.length_replicate, Nat.sub_self, show N - k = (N - (k + 1)) + 1 by omega, List.replicate_succ (n := N - (k + 1)), List.set_cons_zero, List.replicate_succ' (n := k)]
  simp
theorem BlI.cell {W wr : World} {sb N k : Nat} (h : BlI W sb N k wr) (hk : k < N) : wr.cell? ⟨sb, k, none⟩ = some (.string ByteArray.empty) := by
  rw [cl_of h.row, List.getElem?_toArray, List.getElem?_append_right (by simp), List.length_replicate, Nat.sub_self, List.getElem?_replicate, if_pos (by omega)]
theorem BlI.old {W wr : World} {sb N k : Nat} (h : BlI W sb N k wr) (o : Obj) (hk : k < N) : (wr.alloc o).cell? ⟨sb, k, none⟩ = some (.string ByteArray.empty) ∧ (wr.alloc o).frozen? ⟨sb, k, none⟩ = false := by
  have h1 : BlI W sb N k (wr.alloc o) := ⟨(hp_old wr o (blk_lt h.row)).trans h.row, bal h.below _, h.le⟩
  exact ⟨h1.cell hk, fz_of h1.row k⟩
theorem make_strs (n : Nat) (hn : n ≤ 100000) (w : World) : (Instr.makeSlice 33 (.int .i64 n) (.int .i64 n)).run Tryz.prog w = .ok (.slice (some ⟨w.heap.size, 0, none⟩) n n) (w.alloc (.cells (madeCells #[.string ByteArray.empty] n) 9)) :=
  run_make_row' (P := Tryz.prog) 33 9 (.string ByteArray.empty) 16 Tryz.underlying33 Tryz.infoStr rfl .i64 .i64 n (by omega) (by omega) w
set_option maxHeartbeats 2000000 in
theorem blank9_any (N : Nat) (hN : N ≤ 100000) (W : World) : Calls Tryz.prog 33 #[.int .i64 N] W fun e W' => ∃ rb sb, e = .returned (.pointer (some ⟨rb, 0, none⟩)) ∧ RtS W' rb sb N [] (fun k => W.heap.size ≤ k ∧ k < W'.heap.size) ∧ Below W.heap.size W W' ∧ W.heap.size ≤ rb ∧ W.heap.size ≤ sb := by
  have hmk := make_strs N hN W
  have hmk2 : ∀ W : World, (Instr.makeSlice 137 (.int .i64 64) (.int .i64 64)).run Tryz.prog W = .ok (.slice (some ⟨W.heap.size, 0, none⟩) 64 64) (W.alloc (.cells (bc (zeros 64)) 5)) := fun W => make_zeros 64 (by decide) W
  have hcv := fun W => conv_new (zeros 64) 64 (zeros_length 64) W
  rw [zsec_bs] at hcv
  have hm0 : madeCells #[Value.string ByteArray.empty] N = (List.replicate N (Value.string ByteArray.empty)).toArray := by
    apply Array.ext'
    simp [madeCells, Array.toList_range]
    apply List.ext_getElem <;> simp [Nat.mod_one]
  have h0 : BlI W W.heap.size N 0 (W.alloc (.cells (madeCells #[.string ByteArray.empty] N) 9)) := ⟨by rw [hp_new _ _ rfl, hm0]; simp, bnew _ _, Nat.le_refl _⟩
  have H0 := Lib.hid h0
  clear h0 hm0
  go_enter Tryz.func33, Tryz.ntmps33
  go_wp2_with fail
  obtain ⟨sb, hsb⟩ : ∃ sb, W.heap.size = sb := ⟨_, rfl⟩
  have HSB := Lib.hid hsb
  obtain ⟨W1, hW1⟩ : ∃ W1, W.alloc (.cells (madeCells #[.string ByteArray.empty] N) 9) = W1 := ⟨_, rfl⟩
  rw [hW1] at H0
  have H0 : Hid (BlI W sb N 0 W1) := Lib.hid (by have := H0.out; rw [hsb] at this; exact this)
  simp only [hW1, hsb]
  clear hW1 hmk hsb
  go_loopw [4] (fun v4 wr => ∃ k : Nat, k ≤ N ∧ v4 = .int .i64 k ∧ BlI W sb N k wr) (fun v4 _ => N - (intOf v4).toNat)
  case atStart => exact ⟨0, Nat.zero_le _, rfl, H0.out⟩
  case round =>
    obtain ⟨k, hk, rfl, hI⟩ := hrel
    by_cases hlt : k < N
    · have hi2 := (hI.old (.cells (bc (zeros 64)) 5) hlt).1
      have hi3 := (hI.old (.cells (bc (zeros 64)) 5) hlt).2
      have hn := hI.next hlt (.cells (bc (zeros 64)) 5)
      have HI := Lib.hid hn
      clear hI hn
      go_wp2_with fail
      go_roundw
      case rel => exact ⟨k + 1, by omega, by go_num, HI.out⟩
      case measure => simp [intOf]; omega
    · obtain rfl : k = N := by omega
      have HI := Lib.hid hI
      clear hI
      go_wp2_with fail
      go_ret
      have hl := HSB.out
      have hr := HI.out.row
      have hs := blk_lt hr
      refine ⟨_, sb, rfl, ⟨⟨⟨.slice none 0 0, hp_new _ _ rfl, World.ownsRow_nil _ _ _ _, fun k e => by cases e⟩, List.Pairwise.nil⟩, ?_⟩, bal HI.out.below _, by have := HI.out.below.size; omega, by omega⟩
      refine (hp_old _ _ hs).trans (hr.trans ?_)
      rw [Nat.sub_self, List.replicate_zero, List.append_nil]
      congr 2
set_option maxHeartbeats 2000000 in
theorem made9_no {i b j : Int} (h : ¬ Mays i b j) (W : World) : Calls Tryz.prog 30 #[gv i b j] W fun e W' => e = .returned (.tuple #[.pointer none, .pointer none]) ∧ Below W.heap.size W W' := by
  have hsec := fun W => sectors_no h W
  have hprt := fun W => part_no (part := 1) (fun hh => h hh.1) W
  have hnew := fun W => new_no 0 (.inl (by decide)) W
  have HS := Lib.hid hsec
  have HP := Lib.hid hprt
  have HN := Lib.hid hnew
  clear hsec hprt hnew h
  unfold gv
  go_enter Tryz.func30, Tryz.ntmps30
  go_wp2_with fail
  refine (HS.out _).mono ?_
  rintro e w1 ⟨rfl, hB1⟩
  have b1 := bblk hB1 (hp_new W (.cells #[.int .i64 i, .int .i64 b, .int .i64 j] 56) rfl)
  have HB1 := Lib.hid (bt (bnew W (.cells #[.int .i64 i, .int .i64 b, .int .i64 j] 56)) hB1)
  have g0 := cl_of b1 0
  have g1 := cl_of b1 1
  have g2 := cl_of b1 2
  clear hB1 b1
  go_wp2_with fail
  refine (HP.out _).mono ?_
  rintro e w2 ⟨rfl, hB2⟩
  have HB2 := Lib.hid (bt HB1.out hB2)
  clear hB2 g0 g1 g2
  go_wp2_with fail
  refine (HN.out _).mono ?_
  rintro e w3 ⟨rfl, hw3⟩
  have HB3 := Lib.hid (bal HB2.out (.cells #[.int .i64 0, .int .i64 0] 134))
  rw [hw3] at HB3
  clear hw3
  go_wp2_with fail
  go_ret2
  exact ⟨rfl, HB3.out⟩
end Go.Proofs.YtjjphcnoegaimaaGreat

namespace Go.Proofs.YtjjphcnoegaimaaGreat
open Go.RowKit Go.Shelf Go.Maps
set_option maxRecDepth 20000
set_option linter.unusedVariables false
set_option linter.unusedSimpArgs false

structure PL (w0 : World) (X : Nat → Prop) (p jb N tb m rb sb : Nat) (M M2 : Wl) (W : World) : Prop where
  t : TJ w0 X p jb N 0 1 40 0 0 (newS N) tb m M false W
  r : RtS W rb sb N M2 X
  xr : X rb
  xs : X sb
  gr : w0.heap.size ≤ rb
/-- Blocks of the caller's lie as they lay. -/
def KeepP (X : Nat → Prop) (m rb : Nat) (W W' : World) : Prop := ∀ k, X k → k ≠ m → k ≠ rb → W'.heap[k]? = W.heap[k]?
theorem KeepP.t {X : Nat → Prop} {m rb : Nat} {A B C : World} (h : KeepP X m rb A B) (k : KeepP X m rb B C) : KeepP X m rb A C := fun i a b c => (k i a b c).trans (h i a b c)
theorem KeepP.less {X Y : Nat → Prop} {m rb : Nat} {A B : World} (h : KeepP X m rb A B) (hy : ∀ k, Y k → X k) : KeepP Y m rb A B := fun i a b c => h i (hy i a) b c
section
variable {w0 w W W1 W2 W' : World} {X X2 : Nat → Prop} {p jb N tb m rb sb : Nat} {M M2 M' : Wl}
theorem TxA.mobj {tb p jb m : Nat} {M : Wl} {dn : Bool} (h : TxA W tb p jb m M dn) : ¬ ∃ cs t fz, W.heap[m]? = some (.cells cs t fz) := by
  obtain ⟨L, ⟨es, c, hb, _⟩, _⟩ := h.map
  rintro ⟨cs, t, fz, e⟩
  rw [hb] at e
  cases e
theorem PL.cm (h : PL w0 X p jb N tb m rb sb M M2 W) {k : Nat} {cs : Array Value} {t : TypeId} (hk : W.heap[k]? = some (.cells cs t (0, 0))) : k ≠ m := by
  rintro rfl
  exact h.t.t.mobj ⟨_, _, _, hk⟩
theorem PL.robj (h : PL w0 X p jb N tb m rb sb M M2 W) : ∃ cs, W.heap[rb]? = some (.cells cs 39 (0, 0)) := by
  obtain ⟨v, ho, -⟩ := h.r.rt.obj
  exact ⟨_, ho⟩
theorem PL.cr (h : PL w0 X p jb N tb m rb sb M M2 W) {k : Nat} {cs : Array Value} {t : TypeId} (hk : W.heap[k]? = some (.cells cs t (0, 0))) (ht : t ≠ 39) : k ≠ rb := by
  rintro rfl
  obtain ⟨cs2, ho⟩ := h.robj
  rw [ho] at hk
  simp only [Option.some.injEq, Obj.cells.injEq] at hk
  exact ht hk.2.1.symm
theorem PL.cj (h : PL w0 X p jb N tb m rb sb M M2 W) {k : Nat} {cs : Array Value} {t : TypeId} (hk : W.heap[k]? = some (.cells cs t (0, 0))) (ht : t ≠ 105) : k ≠ jb := by
  rintro rfl
  rw [h.t.j.obj] at hk
  simp only [Option.some.injEq, Obj.cells.injEq] at hk
  exact ht hk.2.1.symm
theorem PL.ct (h : PL w0 X p jb N tb m rb sb M M2 W) {k : Nat} {cs : Array Value} {t : TypeId} (hk : W.heap[k]? = some (.cells cs t (0, 0))) (ht : t ≠ 102) : k ≠ tb := by
  rintro rfl
  rw [h.t.t.obj] at hk
  simp only [Option.some.injEq, Obj.cells.injEq] at hk
  exact ht hk.2.1.symm
theorem PL.below (h : PL w0 X p jb N tb m rb sb M M2 W) : Below w0.heap.size w0 W := h.t.j.dev.below
theorem PL.lt (h : PL w0 X p jb N tb m rb sb M M2 W) {k : Nat} (hk : X k) : k < W.heap.size := h.t.j.dev.lt k hk
theorem PL.of (h : PL w0 X p jb N tb m rb sb M M2 W) (hB : Below W.heap.size W W') : PL w0 X p jb N tb m rb sb M M2 W' := ⟨h.t.of hB, h.r.of hB, h.xr, h.xs, h.gr⟩
theorem PL.take (h : PL w0 X p jb N tb m rb sb M M2 W) (hB : Below W.heap.size W W') : PL w0 (fun k => X k ∨ W.heap.size ≤ k ∧ k < W'.heap.size) p jb N tb m rb sb M M2 W' := ⟨h.t.take hB, (h.r.of hB).more (fun _ h => .inl h), .inl h.xr, .inl h.xs, h.gr⟩
theorem PL.keepB (h : PL w0 X p jb N tb m rb sb M M2 W) (hB : Below W.heap.size W W') : KeepP X m rb W W' := fun k hk _ _ => hB.block k (h.lt hk)
/-- The transaction went on. -/
theorem PL.stepT (h : PL w0 X p jb N tb m rb sb M M2 W) (hT : TJ w0 X2 p jb N 0 1 40 0 0 (newS N) tb m M' false W1) (hxx : ∀ k, X k → X2 k) (hK : Kb w0 (fun k => X k ∧ k ≠ m) W W1) : PL w0 X2 p jb N tb m rb sb M' M2 W1 ∧ KeepP X m rb W W1 := by
  obtain ⟨cs, ho⟩ := h.robj
  refine ⟨⟨hT, ⟨h.r.rt.keep (fun k hk => ?_) hxx, ?_⟩, hxx _ h.xr, hxx _ h.xs, h.gr⟩, fun k hk hm _ => hK k (.inr ⟨hk, hm⟩)⟩
  · rcases hk with rfl | ⟨hk, cur, hc⟩
    · exact hK k (.inr ⟨h.xr, h.cm ho⟩)
    · exact hK k (.inr ⟨hk, h.cm hc⟩)
  · exact (hK sb (.inr ⟨h.xs, h.cm h.r.row⟩)).trans h.r.row
/-- The document's went on. -/
theorem PL.stepR (h : PL w0 X p jb N tb m rb sb M M2 W) (hp : RPost W rb sb N M' X W1) : PL w0 (fun k => X k ∨ W.heap.size ≤ k ∧ k < W1.heap.size) p jb N tb m rb sb M M' W1 ∧ KeepP X m rb W W1 := by
  obtain ⟨cs, ho⟩ := h.robj
  exact ⟨⟨h.t.fr1 h.xr h.gr (h.cj ho (by decide)) (h.ct ho (by decide)) (h.cm ho) hp.fr, hp.rt, .inl h.xr, .inl h.xs, h.gr⟩, fun k hk _ hr => hp.fr.block k (h.lt hk) hr⟩
/-- A box of an inode turns. -/
theorem PL.set (h : PL w0 X p jb N tb m rb sb M M2 W) {c : Nat} (hX : X c) (hg : w0.heap.size ≤ c) (hc : TyI W c) (o : Nat) (u : Value) : PL w0 X p jb N tb m rb sb M M2 (W.setCell ⟨c, o, none⟩ u) := by
  obtain ⟨cs, hc'⟩ := hc
  exact ⟨h.t.setC hX hg (h.cj hc' (by decide)) (h.ct hc' (by decide)) (h.cm hc') o u, h.r.setC ⟨cs, hc'⟩, h.xr, h.xs, h.gr⟩
theorem TyI.put8 {c d : Nat} (h : TyI W c) (y : Ino) : TyI (put8 W d y) c := h.set.set.set.set.set.set.set.set
theorem PL.put8 (h : PL w0 X p jb N tb m rb sb M M2 W) {c : Nat} (hX : X c) (hg : w0.heap.size ≤ c) (hc : TyI W c) (y : Ino) : PL w0 X p jb N tb m rb sb M M2 (put8 W c y) :=
  (((((((h.set hX hg hc 0 _).set hX hg hc.set 1 _).set hX hg hc.set.set 2 _).set hX hg hc.set.set.set 3 _).set hX hg hc.set.set.set.set 4 _).set hX hg hc.set.set.set.set.set 5 _).set hX hg hc.set.set.set.set.set.set 6 _).set hX hg hc.set.set.set.set.set.set.set 7 _
/-- Rows of numbers lie as they lay behind a step of the document's. -/
theorem PL.rowR (h : PL w0 X p jb N tb m rb sb M M2 W) (hp : RPost W rb sb N M' X W1) {B : Nat} {v : Value} {k : Nat} {xs : List Value} (hr : W.ownsRow B 57 1 v k xs) : W1.ownsRow B 57 1 v k xs := hp.row h.r hr
end
/-- What a step leaves. -/
def DoP (w0 : World) (X : Nat → Prop) (p jb N tb m rb sb : Nat) (W : World) (e : Ending) (W' : World) : Prop :=
  ∃ (y : Ino) (M' : Wl) (X' : Nat → Prop), e = .returned (.tuple #[.agg (ic y), .bool true]) ∧ PL w0 X' p jb N tb m rb sb M' M' W' ∧ Mo M' ∧ y.Wf ∧ (∀ k, X k → X' k) ∧ KeepP X m rb W W'
end Go.Proofs.YtjjphcnoegaimaaGreat

namespace Go.Proofs.YtjjphcnoegaimaaGreat
open Go.RowKit Go.Shelf Go.Maps
set_option maxRecDepth 20000
set_option linter.unusedVariables false
set_option linter.unusedSimpArgs false

/-- The boxes of a step's call. -/
structure Bx (bg bx bs br ba bb : Nat) (G : Array Value) (x : Ino) (S : Array Value) (r a b : Ino) (W : World) : Prop where
  g : W.heap[bg]? = some (.cells G 56 (0, 0))
  x : W.heap[bx]? = some (.cells (ic x) 61 (0, 0))
  s : W.heap[bs]? = some (.cells S 83 (0, 0))
  r : W.heap[br]? = some (.cells (ic r) 61 (0, 0))
  a : W.heap[ba]? = some (.cells (ic a) 61 (0, 0))
  b : W.heap[bb]? = some (.cells (ic b) 61 (0, 0))
/-- How they lie. -/
structure BxO (w0 W W1 : World) (X X1 : Nat → Prop) (bg bx bs br ba bb : Nat) : Prop where
  o : W.heap.size = bg ∧ bg + 1 = bx ∧ bx + 1 = bs ∧ bs + 1 = br ∧ br + 1 = ba ∧ ba + 1 = bb ∧ bb < W1.heap.size
  w : w0.heap.size ≤ W.heap.size
  lt : ∀ k, X k → k < W.heap.size
  xx : ∀ k, X k → X1 k
  xb : X1 bg ∧ X1 bx ∧ X1 bs ∧ X1 br ∧ X1 ba ∧ X1 bb
section
variable {w0 W W0 W1 W2 W' : World} {X X1 X2 : Nat → Prop} {p jb N tb m rb sb bg bx bs br ba bb : Nat} {M M2 M' : Wl} {GG SS : Array Value} {x r a b y : Ino}
theorem Bx.of (h : Bx bg bx bs br ba bb GG x SS r a b W) (hB : Below W.heap.size W W') : Bx bg bx bs br ba bb GG x SS r a b W' := ⟨bblk hB h.g, bblk hB h.x, bblk hB h.s, bblk hB h.r, bblk hB h.a, bblk hB h.b⟩
theorem PL.box (h : PL w0 X p jb N tb m rb sb M M2 W) (hk : KeepP X m rb W W1) {c : Nat} (hX : X c) {cs : Array Value} {t : TypeId} (hc : W.heap[c]? = some (.cells cs t (0, 0))) (ht : t ≠ 39) : W1.heap[c]? = some (.cells cs t (0, 0)) := (hk c hX (h.cm hc) (h.cr hc ht)).trans hc
theorem Bx.step (h : Bx bg bx bs br ba bb GG x SS r a b W) (hp : PL w0 X2 p jb N tb m rb sb M M2 W) (hk : KeepP X2 m rb W W1) (hx : X2 bg ∧ X2 bx ∧ X2 bs ∧ X2 br ∧ X2 ba ∧ X2 bb) : Bx bg bx bs br ba bb GG x SS r a b W1 :=
  ⟨hp.box hk hx.1 h.g (by decide), hp.box hk hx.2.1 h.x (by decide), hp.box hk hx.2.2.1 h.s (by decide), hp.box hk hx.2.2.2.1 h.r (by decide), hp.box hk hx.2.2.2.2.1 h.a (by decide), hp.box hk hx.2.2.2.2.2 h.b (by decide)⟩
theorem Bx.putA (h : Bx bg bx bs br ba bb GG x SS r a b W) (ho : BxO w0 W0 W1 X X1 bg bx bs br ba bb) (y : Ino) : Bx bg bx bs br ba bb GG x SS r y b (put8 W ba y) := by
  have := ho.o
  exact ⟨(put8_other W (by omega) y).trans h.g, (put8_other W (by omega) y).trans h.x, (put8_other W (by omega) y).trans h.s, (put8_other W (by omega) y).trans h.r, put8_here h.a y, (put8_other W (by omega) y).trans h.b⟩
theorem Bx.putB (h : Bx bg bx bs br ba bb GG x SS r a b W) (ho : BxO w0 W0 W1 X X1 bg bx bs br ba bb) (y : Ino) : Bx bg bx bs br ba bb GG x SS r a y (put8 W bb y) := by
  have := ho.o
  exact ⟨(put8_other W (by omega) y).trans h.g, (put8_other W (by omega) y).trans h.x, (put8_other W (by omega) y).trans h.s, (put8_other W (by omega) y).trans h.r, (put8_other W (by omega) y).trans h.a, put8_here h.b y⟩
theorem keepPut8 (hlt : ∀ k, X k → k < W0.heap.size) {c : Nat} (hc : W0.heap.size ≤ c) (y : Ino) : KeepP X m rb W (put8 W c y) := fun k hk _ _ => put8_other W (by have := hlt k hk; omega) y
theorem six (W : World) (o0 o1 o2 o3 o4 o5 : Obj) {W1 : World} (hW1 : (((((W.alloc o0).alloc o1).alloc o2).alloc o3).alloc o4).alloc o5 = W1) :
    (W1.heap[W.heap.size]? = some o0 ∧ W1.heap[W.heap.size + 1]? = some o1 ∧ W1.heap[W.heap.size + 1 + 1]? = some o2 ∧ W1.heap[W.heap.size + 1 + 1 + 1]? = some o3 ∧ W1.heap[W.heap.size + 1 + 1 + 1 + 1]? = some o4 ∧ W1.heap[W.heap.size + 1 + 1 + 1 + 1 + 1]? = some o5) ∧ Below W.heap.size W W1 ∧ W1.heap.size = W.heap.size + 6 := by
  subst hW1
  refine ⟨⟨?_, ?_, ?_, ?_, ?_, ?_⟩, bal (bal (bal (bal (bal (bnew _ _) _) _) _) _) _, by simp⟩
  · rw [hp_old _ _ (by simp <;> omega), hp_old _ _ (by simp <;> omega), hp_old _ _ (by simp <;> omega), hp_old _ _ (by simp <;> omega), hp_old _ _ (by simp), hp_new _ _ rfl]
  · rw [hp_old _ _ (by simp <;> omega), hp_old _ _ (by simp <;> omega), hp_old _ _ (by simp <;> omega), hp_old _ _ (by simp), hp_new _ _ (by simp)]
  · rw [hp_old _ _ (by simp <;> omega), hp_old _ _ (by simp <;> omega), hp_old _ _ (by simp), hp_new _ _ (by simp)]
  · rw [hp_old _ _ (by simp <;> omega), hp_old _ _ (by simp), hp_new _ _ (by simp)]
  · rw [hp_old _ _ (by simp), hp_new _ _ (by simp)]
  · rw [hp_new _ _ (by simp)]
theorem Bx.start (h : PL w0 X p jb N tb m rb sb M M2 W) {G S : Array Value} {x : Ino} {W1 : World} (hW1 : (((((W.alloc (.cells G 56)).alloc (.cells (ic x) 61)).alloc (.cells S 83)).alloc (.cells (ic Ino.zero) 61)).alloc (.cells (ic Ino.zero) 61)).alloc (.cells (ic Ino.zero) 61) = W1)
    (hbg : W.heap.size = bg) (hbx : bg + 1 = bx) (hbs : bx + 1 = bs) (hbr : bs + 1 = br) (hba : br + 1 = ba) (hbb : ba + 1 = bb) :
    ∃ X1 : Nat → Prop, PL w0 X1 p jb N tb m rb sb M M2 W1 ∧ KeepP X m rb W W1 ∧ BxO w0 W W1 X X1 bg bx bs br ba bb ∧ Bx bg bx bs br ba bb G x S Ino.zero Ino.zero Ino.zero W1 := by
  obtain ⟨⟨c0, c1, c2, c3, c4, c5⟩, hB, hs⟩ := six W _ _ _ _ _ _ hW1
  subst hbb hba hbr hbs hbx hbg
  exact ⟨_, h.take hB, h.keepB hB, ⟨⟨rfl, rfl, rfl, rfl, rfl, rfl, by omega⟩, h.below.size, fun k hk => h.lt hk, fun _ h => .inl h, .inr (by omega), .inr (by omega), .inr (by omega), .inr (by omega), .inr (by omega), .inr (by omega)⟩, ⟨c0, c1, c2, c3, c4, c5⟩⟩
end
section
variable {w0 w W W' : World} {X : Nat → Prop} {p jb N tb m rb sb : Nat} {M : Wl} {i b j page v : Int} {x : Ino} {lv : Value}
set_option maxHeartbeats 8000000 in
theorem does_get (h : PL w0 X p jb N tb m rb sb M M W) (hM : Mo M) (hg : GeoN i b j N) (hN : N ≤ 1000000) (hx : x.Wf) (h0 : 0 ≤ v) (h1 : v < 65536) :
    Calls Tryz.prog 35 #[.pointer (some ⟨tb, 0, none⟩), .pointer (some ⟨rb, 0, none⟩), gv i b j, .agg (ic x), .agg #[.int .i64 0, .int .i64 page, .int .u16 v, lv]] W (DoP w0 X p jb N tb m rb sb W) := by
  obtain ⟨u, hu⟩ : ∃ u, getA i b j x M page = u := ⟨_, rfl⟩
  have HT := Lib.hid (fun (W2 : World) (h2 : TJ w0 (fun _ => True) p jb N 0 1 40 0 0 (newS N) tb m M false W2) => True.intro)
  have HGT := Lib.hid (fun (X2 : Nat → Prop) (W2 : World) (h2 : PL w0 X2 p jb N tb m rb sb M M W2) => bget_all h2.t hM hg hx page)
  have HGR := Lib.hid (fun (X2 : Nat → Prop) (W2 : World) (h2 : PL w0 X2 p jb N tb m rb sb M M W2) => r9get_all h2.r hM hN hg hx page)
  rw [hu] at HGT HGR
  obtain ⟨u, z⟩ := u
  dsimp only at HGT HGR
  have HMW := Lib.hid (And.intro hM hx)
  have eu : (u == u) = true := by simp
  have ez : (z == z) = true := by simp
  clear HT
  have H := Lib.hid h
  clear hM hg hN hx hu h0 h1 h
  unfold gv ic at *
  go_enter Tryz.func35, Tryz.ntmps35
  go_wp2_with fail
  obtain ⟨W1, hW1⟩ : ∃ W1, (((((W.alloc (.cells #[.int .i64 i, .int .i64 b, .int .i64 j] 56)).alloc (.cells #[.int .u8 x.k, .int .u16 x.l, .int .u32 x.s, .int .u16 x.d0, .int .u16 x.d1, .int .u16 x.d2, .int .u16 x.d3, .int .u16 x.n] 61)).alloc (.cells #[.int .i64 0, .int .i64 page, .int .u16 v, lv] 83)).alloc (.cells #[.int .u8 0, .int .u16 0, .int .u32 0, .int .u16 0, .int .u16 0, .int .u16 0, .int .u16 0, .int .u16 0] 61)).alloc (.cells #[.int .u8 0, .int .u16 0, .int .u32 0, .int .u16 0, .int .u16 0, .int .u16 0, .int .u16 0, .int .u16 0] 61)).alloc (.cells #[.int .u8 0, .int .u16 0, .int .u32 0, .int .u16 0, .int .u16 0, .int .u16 0, .int .u16 0, .int .u16 0] 61) = W1 := ⟨_, rfl⟩
  simp only [hW1]
  obtain ⟨bg, hbg⟩ : ∃ bg, W.heap.size = bg := ⟨_, rfl⟩
  obtain ⟨bx, hbx⟩ : ∃ bx, bg + 1 = bx := ⟨_, rfl⟩
  obtain ⟨bs, hbs⟩ : ∃ bs, bx + 1 = bs := ⟨_, rfl⟩
  obtain ⟨br, hbr⟩ : ∃ br, bs + 1 = br := ⟨_, rfl⟩
  obtain ⟨ba, hba⟩ : ∃ ba, br + 1 = ba := ⟨_, rfl⟩
  obtain ⟨bb, hbb⟩ : ∃ bb, ba + 1 = bb := ⟨_, rfl⟩
  simp only [hbg, hbx, hbs, hbr, hba, hbb]
  obtain ⟨X1, h1, k1, hO, hb1⟩ := Bx.start (x := x) H.out hW1 hbg hbx hbs hbr hba hbb
  have HO := Lib.hid hO
  have H1 := Lib.hid h1
  have K1 := Lib.hid k1
  have HBX := Lib.hid hb1
  have ne1 : bx ≠ br := by omega
  have ne2 : br ≠ bx := by omega
  have ne3 : bx ≠ ba := by omega
  have ne4 : ba ≠ bx := by omega
  have ne5 : bx ≠ bb := by omega
  have ne6 : bb ≠ bx := by omega
  have ne7 : br ≠ ba := by omega
  have ne8 : ba ≠ br := by omega
  have ne9 : br ≠ bb := by omega
  have ne10 : bb ≠ br := by omega
  have ne11 : ba ≠ bb := by omega
  have ne12 : bb ≠ ba := by omega
  have ne13 : bg ≠ ba := by omega
  have ne14 : ba ≠ bg := by omega
  have ne15 : bs ≠ ba := by omega
  have ne16 : ba ≠ bs := by omega
  clear hW1 hbg hbx hbs hbr hba hbb hO h1 k1 hb1
  have zg := HBX.out.g
  have zx := HBX.out.x
  have zs := HBX.out.s
  unfold ic at zx
  have g0 := cl_of zg 0
  have g1 := cl_of zg 1
  have g2 := cl_of zg 2
  have q0 := cl_of zx 0
  have q1 := cl_of zx 1
  have q2 := cl_of zx 2
  have q3 := cl_of zx 3
  have q4 := cl_of zx 4
  have q5 := cl_of zx 5
  have q6 := cl_of zx 6
  have q7 := cl_of zx 7
  have t0 := cl_of zs 0
  have t1 := cl_of zs 1
  have t2 := cl_of zs 2
  have t3 := cl_of zs 3
  clear zg zx zs
  go_wp2_with fail
  refine (HGT.out _ _ H1.out).mono ?_
  rintro e w2 ⟨rfl, hB2⟩
  have h2 := H1.out.of hB2
  have k2 := H1.out.keepB hB2
  have bx2 := HBX.out.of hB2
  have H2 := Lib.hid h2
  have K2 := Lib.hid k2
  have BX2 := Lib.hid bx2
  clear g0 g1 g2 q0 q1 q2 q3 q4 q5 q6 q7 t0 t1 t2 t3 hB2 h2 k2 bx2
  have zg := BX2.out.g
  have zx := BX2.out.x
  have zs := BX2.out.s
  unfold ic at zx
  have g0 := cl_of zg 0
  have g1 := cl_of zg 1
  have g2 := cl_of zg 2
  have q0 := cl_of zx 0
  have q1 := cl_of zx 1
  have q2 := cl_of zx 2
  have q3 := cl_of zx 3
  have q4 := cl_of zx 4
  have q5 := cl_of zx 5
  have q6 := cl_of zx 6
  have q7 := cl_of zx 7
  have t0 := cl_of zs 0
  have t1 := cl_of zs 1
  have t2 := cl_of zs 2
  have t3 := cl_of zs 3
  clear zg zx zs
  go_wp2_with fail
  refine (HGR.out _ _ H2.out).mono ?_
  rintro e w3 ⟨rfl, hB3⟩
  have h3 := H2.out.of hB3
  have bx3 := BX2.out.of hB3
  have hfin : DoP w0 X p jb N tb m rb sb W (.returned (.tuple #[.agg (ic x), .bool true])) (put8 w3 br x) :=
    ⟨x, M, X1, rfl, h3.put8 HO.out.xb.2.2.2.1 (by have := HO.out.o; have := HO.out.w; omega) ⟨_, bx3.r⟩ x, HMW.out.1, HMW.out.2, HO.out.xx, (K1.out.t ((K2.out.t (H2.out.keepB hB3)).less HO.out.xx)).t (keepPut8 HO.out.lt (by have := HO.out.o; omega) x)⟩
  have HF := Lib.hid hfin
  have BX3 := Lib.hid bx3
  clear g0 g1 g2 q0 q1 q2 q3 q4 q5 q6 q7 t0 t1 t2 t3 hB3 h3 bx3 hfin
  have zg := BX3.out.g
  have zx := BX3.out.x
  unfold ic at zx
  have g0 := cl_of zg 0
  have g1 := cl_of zg 1
  have g2 := cl_of zg 2
  have q0 := cl_of zx 0
  have q1 := cl_of zx 1
  have q2 := cl_of zx 2
  have q3 := cl_of zx 3
  have q4 := cl_of zx 4
  have q5 := cl_of zx 5
  have q6 := cl_of zx 6
  have q7 := cl_of zx 7
  clear zg zx
  have zz := BX3.out.r
  unfold ic Ino.zero at zz
  have r0 := cl_of zz 0
  have r1 := cl_of zz 1
  have r2 := cl_of zz 2
  have r3 := cl_of zz 3
  have r4 := cl_of zz 4
  have r5 := cl_of zz 5
  have r6 := cl_of zz 6
  have r7 := cl_of zz 7
  have rz := fz_of zz
  clear zz
  go_wp2_with fail
  refine bodyPost_ret (v := .tuple #[.agg (ic x), .bool true]) (by simp [results, Tryz.results35, go_sem, ic, ne1, ne2, q0, q1, q2, q3, q4, q5, q6, q7, r0, r1, r2, r3, r4, r5, r6, r7]) rfl ?_
  exact HF.out
set_option maxHeartbeats 8000000 in
theorem does_set (h : PL w0 X p jb N tb m rb sb M M W) (hM : Mo M) (hg : GeoN i b j N) (hN : N ≤ 1000000) (hx : x.Wf) (h0 : 0 ≤ v) (h1 : v < 65536) :
    Calls Tryz.prog 35 #[.pointer (some ⟨tb, 0, none⟩), .pointer (some ⟨rb, 0, none⟩), gv i b j, .agg (ic x), .agg #[.int .i64 1, .int .i64 page, .int .u16 v, lv]] W (DoP w0 X p jb N tb m rb sb W) := by
  obtain ⟨A, hA⟩ : ∃ A, setA i b j x M page v = A := ⟨_, rfl⟩
  have hok := setA_ok (i := i) (b := b) (j := j) (page := page) hx hM h0 h1
  rw [hA] at hok
  have HGT := Lib.hid (fun (X2 : Nat → Prop) (W2 : World) (h2 : PL w0 X2 p jb N tb m rb sb M M W2) => bset_all h2.t hM hg hx h0 h1 page A hA)
  have HGR := Lib.hid (fun (X2 : Nat → Prop) (M' : Wl) (W2 : World) (h2 : PL w0 X2 p jb N tb m rb sb M' M W2) => r9set_all h2.r hM hN hg hx h0 h1 page A hA)
  obtain ⟨y, z, M'⟩ := A
  dsimp only at HGT HGR hok
  have HOK := Lib.hid hok
  have HMW := Lib.hid hx
  have ez : (z != z) = false := by simp
  have hey := fun W : World => eq_ino y y W
  rw [show ieq y y = true from decide_eq_true rfl] at hey
  have H := Lib.hid h
  clear hM hg hN hx hA h0 h1 hok h
  unfold gv ic at *
  go_enter Tryz.func35, Tryz.ntmps35
  go_wp2_with fail
  obtain ⟨W1, hW1⟩ : ∃ W1, (((((W.alloc (.cells #[.int .i64 i, .int .i64 b, .int .i64 j] 56)).alloc (.cells #[.int .u8 x.k, .int .u16 x.l, .int .u32 x.s, .int .u16 x.d0, .int .u16 x.d1, .int .u16 x.d2, .int .u16 x.d3, .int .u16 x.n] 61)).alloc (.cells #[.int .i64 1, .int .i64 page, .int .u16 v, lv] 83)).alloc (.cells #[.int .u8 0, .int .u16 0, .int .u32 0, .int .u16 0, .int .u16 0, .int .u16 0, .int .u16 0, .int .u16 0] 61)).alloc (.cells #[.int .u8 0, .int .u16 0, .int .u32 0, .int .u16 0, .int .u16 0, .int .u16 0, .int .u16 0, .int .u16 0] 61)).alloc (.cells #[.int .u8 0, .int .u16 0, .int .u32 0, .int .u16 0, .int .u16 0, .int .u16 0, .int .u16 0, .int .u16 0] 61) = W1 := ⟨_, rfl⟩
  simp only [hW1]
  obtain ⟨bg, hbg⟩ : ∃ bg, W.heap.size = bg := ⟨_, rfl⟩
  obtain ⟨bx, hbx⟩ : ∃ bx, bg + 1 = bx := ⟨_, rfl⟩
  obtain ⟨bs, hbs⟩ : ∃ bs, bx + 1 = bs := ⟨_, rfl⟩
  obtain ⟨br, hbr⟩ : ∃ br, bs + 1 = br := ⟨_, rfl⟩
  obtain ⟨ba, hba⟩ : ∃ ba, br + 1 = ba := ⟨_, rfl⟩
  obtain ⟨bb, hbb⟩ : ∃ bb, ba + 1 = bb := ⟨_, rfl⟩
  simp only [hbg, hbx, hbs, hbr, hba, hbb]
  obtain ⟨X1, h1, k1, hO, hb1⟩ := Bx.start (x := x) H.out hW1 hbg hbx hbs hbr hba hbb
  have HO := Lib.hid hO
  have H1 := Lib.hid h1
  have K1 := Lib.hid k1
  have HBX := Lib.hid hb1
  have ne1 : bx ≠ br := by omega
  have ne2 : br ≠ bx := by omega
  have ne3 : bx ≠ ba := by omega
  have ne4 : ba ≠ bx := by omega
  have ne5 : bx ≠ bb := by omega
  have ne6 : bb ≠ bx := by omega
  have ne7 : br ≠ ba := by omega
  have ne8 : ba ≠ br := by omega
  have ne9 : br ≠ bb := by omega
  have ne10 : bb ≠ br := by omega
  have ne11 : ba ≠ bb := by omega
  have ne12 : bb ≠ ba := by omega
  have ne13 : bg ≠ ba := by omega
  have ne14 : ba ≠ bg := by omega
  have ne15 : bs ≠ ba := by omega
  have ne16 : ba ≠ bs := by omega
  clear hW1 hbg hbx hbs hbr hba hbb hO h1 k1 hb1
  have zg := HBX.out.g
  have zx := HBX.out.x
  have zs := HBX.out.s
  unfold ic at zx
  have g0 := cl_of zg 0
  have g1 := cl_of zg 1
  have g2 := cl_of zg 2
  have q0 := cl_of zx 0
  have q1 := cl_of zx 1
  have q2 := cl_of zx 2
  have q3 := cl_of zx 3
  have q4 := cl_of zx 4
  have q5 := cl_of zx 5
  have q6 := cl_of zx 6
  have q7 := cl_of zx 7
  have t0 := cl_of zs 0
  have t1 := cl_of zs 1
  have t2 := cl_of zs 2
  have t3 := cl_of zs 3
  clear zg zx zs
  go_wp2_with fail
  refine (HGT.out _ _ H1.out).mono ?_
  rintro e w2 ⟨rfl, hT2, hK2⟩
  obtain ⟨h2, k2⟩ := H1.out.stepT hT2 (fun _ h => h) hK2
  have bx2 := HBX.out.step H1.out k2 HO.out.xb
  have h3 := h2.put8 HO.out.xb.2.2.2.2.1 (by have := HO.out.o; have := HO.out.w; omega) ⟨_, bx2.a⟩ y
  have bx3 := bx2.putA HO.out y
  have K2 := Lib.hid k2
  have BX2 := Lib.hid bx2
  have H3 := Lib.hid h3
  have BX3 := Lib.hid bx3
  obtain ⟨W3, hW3⟩ : ∃ W3, put8 w2 ba y = W3 := ⟨_, rfl⟩
  rw [hW3] at H3 BX3
  have k23 : KeepP X m rb w2 W3 := by rw [← hW3]; exact keepPut8 HO.out.lt (by have := HO.out.o; omega) y
  have K23 := Lib.hid k23
  unfold put8 at hW3
  clear g0 g1 g2 q0 q1 q2 q3 q4 q5 q6 q7 t0 t1 t2 t3 hT2 hK2 h2 k2 bx2 h3 bx3 k23
  have zz := BX2.out.a
  unfold ic Ino.zero at zz
  have a0 := cl_of zz 0
  have a1 := cl_of zz 1
  have a2 := cl_of zz 2
  have a3 := cl_of zz 3
  have a4 := cl_of zz 4
  have a5 := cl_of zz 5
  have a6 := cl_of zz 6
  have a7 := cl_of zz 7
  have az := fz_of zz
  clear zz
  have zg := BX3.out.g
  have zx := BX3.out.x
  have zs := BX3.out.s
  unfold ic at zx
  have g0 := cl_of zg 0
  have g1 := cl_of zg 1
  have g2 := cl_of zg 2
  have q0 := cl_of zx 0
  have q1 := cl_of zx 1
  have q2 := cl_of zx 2
  have q3 := cl_of zx 3
  have q4 := cl_of zx 4
  have q5 := cl_of zx 5
  have q6 := cl_of zx 6
  have q7 := cl_of zx 7
  have t0 := cl_of zs 0
  have t1 := cl_of zs 1
  have t2 := cl_of zs 2
  have t3 := cl_of zs 3
  clear zg zx zs
  go_wp2_with fail
  refine (HGR.out _ _ _ H3.out).mono ?_
  rintro e w4 ⟨rfl, hp4⟩
  obtain ⟨h4, k4⟩ := H3.out.stepR hp4
  have bx4 := BX3.out.step H3.out k4 HO.out.xb
  have h5 := h4.put8 (.inl HO.out.xb.2.2.2.2.2) (by have := HO.out.o; have := HO.out.w; omega) ⟨_, bx4.b⟩ y
  have bx5 := bx4.putB HO.out y
  have K4 := Lib.hid k4
  have BX4 := Lib.hid bx4
  have H5 := Lib.hid h5
  have BX5 := Lib.hid bx5
  obtain ⟨W5, hW5⟩ : ∃ W5, put8 w4 bb y = W5 := ⟨_, rfl⟩
  rw [hW5] at H5 BX5
  have k45 : KeepP X m rb w4 W5 := by rw [← hW5]; exact keepPut8 HO.out.lt (by have := HO.out.o; omega) y
  have hk : KeepP X m rb W W5 := (K1.out.t ((K2.out.less HO.out.xx).t (K23.out.t (k4.less HO.out.xx)))).t k45
  have HK := Lib.hid hk
  have HXX : Hid (∀ k, X k → X1 k ∨ W3.heap.size ≤ k ∧ k < w4.heap.size) := Lib.hid (fun k h => .inl (HO.out.xx k h))
  have hfin : ∀ u : Ino, u.Wf → DoP w0 X p jb N tb m rb sb W (.returned (.tuple #[.agg (ic u), .bool true])) (put8 W5 br u) := fun u hu =>
    ⟨u, M', _, rfl, H5.out.put8 (.inl HO.out.xb.2.2.2.1) (by have := HO.out.o; have := HO.out.w; omega) ⟨_, BX5.out.r⟩ u, HOK.out.2.1, hu, HXX.out, HK.out.t (keepPut8 HO.out.lt (by have := HO.out.o; omega) u)⟩
  have HF := Lib.hid hfin
  unfold put8 at hW5
  clear a0 a1 a2 a3 a4 a5 a6 a7 az g0 g1 g2 q0 q1 q2 q3 q4 q5 q6 q7 t0 t1 t2 t3 hp4 h4 k4 bx4 h5 bx5 k45 hk hfin hW3
  have zz := BX4.out.b
  unfold ic Ino.zero at zz
  have b0 := cl_of zz 0
  have b1 := cl_of zz 1
  have b2 := cl_of zz 2
  have b3 := cl_of zz 3
  have b4 := cl_of zz 4
  have b5 := cl_of zz 5
  have b6 := cl_of zz 6
  have b7 := cl_of zz 7
  have bz := fz_of zz
  clear zz
  have zz := BX5.out.a
  unfold ic at zz
  have a0 := cl_of zz 0
  have a1 := cl_of zz 1
  have a2 := cl_of zz 2
  have a3 := cl_of zz 3
  have a4 := cl_of zz 4
  have a5 := cl_of zz 5
  have a6 := cl_of zz 6
  have a7 := cl_of zz 7
  have az := fz_of zz
  clear zz
  have zz := BX5.out.b
  unfold ic at zz
  have c0 := cl_of zz 0
  have c1 := cl_of zz 1
  have c2 := cl_of zz 2
  have c3 := cl_of zz 3
  have c4 := cl_of zz 4
  have c5 := cl_of zz 5
  have c6 := cl_of zz 6
  have c7 := cl_of zz 7
  have cz := fz_of zz
  clear zz
  have zg := BX5.out.g
  have zx := BX5.out.x
  unfold ic at zx
  have g0 := cl_of zg 0
  have g1 := cl_of zg 1
  have g2 := cl_of zg 2
  have q0 := cl_of zx 0
  have q1 := cl_of zx 1
  have q2 := cl_of zx 2
  have q3 := cl_of zx 3
  have q4 := cl_of zx 4
  have q5 := cl_of zx 5
  have q6 := cl_of zx 6
  have q7 := cl_of zx 7
  clear zg zx
  have zz := BX5.out.r
  unfold ic Ino.zero at zz
  have r0 := cl_of zz 0
  have r1 := cl_of zz 1
  have r2 := cl_of zz 2
  have r3 := cl_of zz 3
  have r4 := cl_of zz 4
  have r5 := cl_of zz 5
  have r6 := cl_of zz 6
  have r7 := cl_of zz 7
  have rz := fz_of zz
  clear zz
  by_cases hz : z = 0
  · have e2 : (z != 0) = false := by simpa using hz
    clear hz
    go_wp2_with fail
    refine bodyPost_ret (v := .tuple #[.agg (ic y), .bool true]) (by simp [results, Tryz.results35, go_sem, ic, ne1, ne2, r0, r1, r2, r3, r4, r5, r6, r7, c0, c1, c2, c3, c4, c5, c6, c7]) rfl ?_
    exact HF.out y HOK.out.1
  · have e2 : (z != 0) = true := by simpa using hz
    clear hz
    go_wp2_with fail
    refine bodyPost_ret (v := .tuple #[.agg (ic x), .bool true]) (by simp [results, Tryz.results35, go_sem, ic, ne1, ne2, r0, r1, r2, r3, r4, r5, r6, r7, q0, q1, q2, q3, q4, q5, q6, q7]) rfl ?_
    exact HF.out x HMW.out
set_option maxHeartbeats 8000000 in
theorem does_begin (h : PL w0 X p jb N tb m rb sb M M W) (hM : Mo M) (hg : GeoN i b j N) (hN : N ≤ 1000000) (hx : x.Wf) (h0 : 0 ≤ v) (h1 : v < 65536) :
    Calls Tryz.prog 35 #[.pointer (some ⟨tb, 0, none⟩), .pointer (some ⟨rb, 0, none⟩), gv i b j, .agg (ic x), .agg #[.int .i64 2, .int .i64 page, .int .u16 v, lv]] W (DoP w0 X p jb N tb m rb sb W) := by
  obtain ⟨A, hA⟩ : ∃ A, beginA i b j x M v = A := ⟨_, rfl⟩
  have hok := beginA_ok (i := i) (b := b) (j := j) hx hM h0 h1
  rw [hA] at hok
  have HGT := Lib.hid (fun (X2 : Nat → Prop) (W2 : World) (h2 : PL w0 X2 p jb N tb m rb sb M M W2) => bbegin_all h2.t hM hg hx h0 h1 A hA)
  have HGR := Lib.hid (fun (X2 : Nat → Prop) (M' : Wl) (W2 : World) (h2 : PL w0 X2 p jb N tb m rb sb M' M W2) => r9begin_all h2.r hM hN hg hx h0 h1 A hA)
  obtain ⟨y, z, M'⟩ := A
  dsimp only at HGT HGR hok
  have HOK := Lib.hid hok
  have HMW := Lib.hid hx
  have ez : (z != z) = false := by simp
  have hey := fun W : World => eq_ino y y W
  rw [show ieq y y = true from decide_eq_true rfl] at hey
  have H := Lib.hid h
  clear hM hg hN hx hA h0 h1 hok h
  unfold gv ic at *
  go_enter Tryz.func35, Tryz.ntmps35
  go_wp2_with fail
  obtain ⟨W1, hW1⟩ : ∃ W1, (((((W.alloc (.cells #[.int .i64 i, .int .i64 b, .int .i64 j] 56)).alloc (.cells #[.int .u8 x.k, .int .u16 x.l, .int .u32 x.s, .int .u16 x.d0, .int .u16 x.d1, .int .u16 x.d2, .int .u16 x.d3, .int .u16 x.n] 61)).alloc (.cells #[.int .i64 2, .int .i64 page, .int .u16 v, lv] 83)).alloc (.cells #[.int .u8 0, .int .u16 0, .int .u32 0, .int .u16 0, .int .u16 0, .int .u16 0, .int .u16 0, .int .u16 0] 61)).alloc (.cells #[.int .u8 0, .int .u16 0, .int .u32 0, .int .u16 0, .int .u16 0, .int .u16 0, .int .u16 0, .int .u16 0] 61)).alloc (.cells #[.int .u8 0, .int .u16 0, .int .u32 0, .int .u16 0, .int .u16 0, .int .u16 0, .int .u16 0, .int .u16 0] 61) = W1 := ⟨_, rfl⟩
  simp only [hW1]
  obtain ⟨bg, hbg⟩ : ∃ bg, W.heap.size = bg := ⟨_, rfl⟩
  obtain ⟨bx, hbx⟩ : ∃ bx, bg + 1 = bx := ⟨_, rfl⟩
  obtain ⟨bs, hbs⟩ : ∃ bs, bx + 1 = bs := ⟨_, rfl⟩
  obtain ⟨br, hbr⟩ : ∃ br, bs + 1 = br := ⟨_, rfl⟩
  obtain ⟨ba, hba⟩ : ∃ ba, br + 1 = ba := ⟨_, rfl⟩
  obtain ⟨bb, hbb⟩ : ∃ bb, ba + 1 = bb := ⟨_, rfl⟩
  simp only [hbg, hbx, hbs, hbr, hba, hbb]
  obtain ⟨X1, h1, k1, hO, hb1⟩ := Bx.start (x := x) H.out hW1 hbg hbx hbs hbr hba hbb
  have HO := Lib.hid hO
  have H1 := Lib.hid h1
  have K1 := Lib.hid k1
  have HBX := Lib.hid hb1
  have ne1 : bx ≠ br := by omega
  have ne2 : br ≠ bx := by omega
  have ne3 : bx ≠ ba := by omega
  have ne4 : ba ≠ bx := by omega
  have ne5 : bx ≠ bb := by omega
  have ne6 : bb ≠ bx := by omega
  have ne7 : br ≠ ba := by omega
  have ne8 : ba ≠ br := by omega
  have ne9 : br ≠ bb := by omega
  have ne10 : bb ≠ br := by omega
  have ne11 : ba ≠ bb := by omega
  have ne12 : bb ≠ ba := by omega
  have ne13 : bg ≠ ba := by omega
  have ne14 : ba ≠ bg := by omega
  have ne15 : bs ≠ ba := by omega
  have ne16 : ba ≠ bs := by omega
  clear hW1 hbg hbx hbs hbr hba hbb hO h1 k1 hb1
  have zg := HBX.out.g
  have zx := HBX.out.x
  have zs := HBX.out.s
  unfold ic at zx
  have g0 := cl_of zg 0
  have g1 := cl_of zg 1
  have g2 := cl_of zg 2
  have q0 := cl_of zx 0
  have q1 := cl_of zx 1
  have q2 := cl_of zx 2
  have q3 := cl_of zx 3
  have q4 := cl_of zx 4
  have q5 := cl_of zx 5
  have q6 := cl_of zx 6
  have q7 := cl_of zx 7
  have t0 := cl_of zs 0
  have t1 := cl_of zs 1
  have t2 := cl_of zs 2
  have t3 := cl_of zs 3
  clear zg zx zs
  go_wp2_with fail
  refine (HGT.out _ _ H1.out).mono ?_
  rintro e w2 ⟨rfl, hT2, hK2⟩
  obtain ⟨h2, k2⟩ := H1.out.stepT hT2 (fun _ h => h) hK2
  have bx2 := HBX.out.step H1.out k2 HO.out.xb
  have h3 := h2.put8 HO.out.xb.2.2.2.2.1 (by have := HO.out.o; have := HO.out.w; omega) ⟨_, bx2.a⟩ y
  have bx3 := bx2.putA HO.out y
  have K2 := Lib.hid k2
  have BX2 := Lib.hid bx2
  have H3 := Lib.hid h3
  have BX3 := Lib.hid bx3
  obtain ⟨W3, hW3⟩ : ∃ W3, put8 w2 ba y = W3 := ⟨_, rfl⟩
  rw [hW3] at H3 BX3
  have k23 : KeepP X m rb w2 W3 := by rw [← hW3]; exact keepPut8 HO.out.lt (by have := HO.out.o; omega) y
  have K23 := Lib.hid k23
  unfold put8 at hW3
  clear g0 g1 g2 q0 q1 q2 q3 q4 q5 q6 q7 t0 t1 t2 t3 hT2 hK2 h2 k2 bx2 h3 bx3 k23
  have zz := BX2.out.a
  unfold ic Ino.zero at zz
  have a0 := cl_of zz 0
  have a1 := cl_of zz 1
  have a2 := cl_of zz 2
  have a3 := cl_of zz 3
  have a4 := cl_of zz 4
  have a5 := cl_of zz 5
  have a6 := cl_of zz 6
  have a7 := cl_of zz 7
  have az := fz_of zz
  clear zz
  have zg := BX3.out.g
  have zx := BX3.out.x
  have zs := BX3.out.s
  unfold ic at zx
  have g0 := cl_of zg 0
  have g1 := cl_of zg 1
  have g2 := cl_of zg 2
  have q0 := cl_of zx 0
  have q1 := cl_of zx 1
  have q2 := cl_of zx 2
  have q3 := cl_of zx 3
  have q4 := cl_of zx 4
  have q5 := cl_of zx 5
  have q6 := cl_of zx 6
  have q7 := cl_of zx 7
  have t0 := cl_of zs 0
  have t1 := cl_of zs 1
  have t2 := cl_of zs 2
  have t3 := cl_of zs 3
  clear zg zx zs
  go_wp2_with fail
  refine (HGR.out _ _ _ H3.out).mono ?_
  rintro e w4 ⟨rfl, hp4⟩
  obtain ⟨h4, k4⟩ := H3.out.stepR hp4
  have bx4 := BX3.out.step H3.out k4 HO.out.xb
  have h5 := h4.put8 (.inl HO.out.xb.2.2.2.2.2) (by have := HO.out.o; have := HO.out.w; omega) ⟨_, bx4.b⟩ y
  have bx5 := bx4.putB HO.out y
  have K4 := Lib.hid k4
  have BX4 := Lib.hid bx4
  have H5 := Lib.hid h5
  have BX5 := Lib.hid bx5
  obtain ⟨W5, hW5⟩ : ∃ W5, put8 w4 bb y = W5 := ⟨_, rfl⟩
  rw [hW5] at H5 BX5
  have k45 : KeepP X m rb w4 W5 := by rw [← hW5]; exact keepPut8 HO.out.lt (by have := HO.out.o; omega) y
  have hk : KeepP X m rb W W5 := (K1.out.t ((K2.out.less HO.out.xx).t (K23.out.t (k4.less HO.out.xx)))).t k45
  have HK := Lib.hid hk
  have HXX : Hid (∀ k, X k → X1 k ∨ W3.heap.size ≤ k ∧ k < w4.heap.size) := Lib.hid (fun k h => .inl (HO.out.xx k h))
  have hfin : ∀ u : Ino, u.Wf → DoP w0 X p jb N tb m rb sb W (.returned (.tuple #[.agg (ic u), .bool true])) (put8 W5 br u) := fun u hu =>
    ⟨u, M', _, rfl, H5.out.put8 (.inl HO.out.xb.2.2.2.1) (by have := HO.out.o; have := HO.out.w; omega) ⟨_, BX5.out.r⟩ u, HOK.out.2.1, hu, HXX.out, HK.out.t (keepPut8 HO.out.lt (by have := HO.out.o; omega) u)⟩
  have HF := Lib.hid hfin
  unfold put8 at hW5
  clear a0 a1 a2 a3 a4 a5 a6 a7 az g0 g1 g2 q0 q1 q2 q3 q4 q5 q6 q7 t0 t1 t2 t3 hp4 h4 k4 bx4 h5 bx5 k45 hk hfin hW3
  have zz := BX4.out.b
  unfold ic Ino.zero at zz
  have b0 := cl_of zz 0
  have b1 := cl_of zz 1
  have b2 := cl_of zz 2
  have b3 := cl_of zz 3
  have b4 := cl_of zz 4
  have b5 := cl_of zz 5
  have b6 := cl_of zz 6
  have b7 := cl_of zz 7
  have bz := fz_of zz
  clear zz
  have zz := BX5.out.a
  unfold ic at zz
  have a0 := cl_of zz 0
  have a1 := cl_of zz 1
  have a2 := cl_of zz 2
  have a3 := cl_of zz 3
  have a4 := cl_of zz 4
  have a5 := cl_of zz 5
  have a6 := cl_of zz 6
  have a7 := cl_of zz 7
  have az := fz_of zz
  clear zz
  have zz := BX5.out.b
  unfold ic at zz
  have c0 := cl_of zz 0
  have c1 := cl_of zz 1
  have c2 := cl_of zz 2
  have c3 := cl_of zz 3
  have c4 := cl_of zz 4
  have c5 := cl_of zz 5
  have c6 := cl_of zz 6
  have c7 := cl_of zz 7
  have cz := fz_of zz
  clear zz
  have zg := BX5.out.g
  have zx := BX5.out.x
  unfold ic at zx
  have g0 := cl_of zg 0
  have g1 := cl_of zg 1
  have g2 := cl_of zg 2
  have q0 := cl_of zx 0
  have q1 := cl_of zx 1
  have q2 := cl_of zx 2
  have q3 := cl_of zx 3
  have q4 := cl_of zx 4
  have q5 := cl_of zx 5
  have q6 := cl_of zx 6
  have q7 := cl_of zx 7
  clear zg zx
  have zz := BX5.out.r
  unfold ic Ino.zero at zz
  have r0 := cl_of zz 0
  have r1 := cl_of zz 1
  have r2 := cl_of zz 2
  have r3 := cl_of zz 3
  have r4 := cl_of zz 4
  have r5 := cl_of zz 5
  have r6 := cl_of zz 6
  have r7 := cl_of zz 7
  have rz := fz_of zz
  clear zz
  by_cases hz : z = 0
  · have e2 : (z != 0) = false := by simpa using hz
    clear hz
    go_wp2_with fail
    refine bodyPost_ret (v := .tuple #[.agg (ic y), .bool true]) (by simp [results, Tryz.results35, go_sem, ic, ne1, ne2, r0, r1, r2, r3, r4, r5, r6, r7, c0, c1, c2, c3, c4, c5, c6, c7]) rfl ?_
    exact HF.out y HOK.out.1
  · have e2 : (z != 0) = true := by simpa using hz
    clear hz
    go_wp2_with fail
    refine bodyPost_ret (v := .tuple #[.agg (ic x), .bool true]) (by simp [results, Tryz.results35, go_sem, ic, ne1, ne2, r0, r1, r2, r3, r4, r5, r6, r7, q0, q1, q2, q3, q4, q5, q6, q7]) rfl ?_
    exact HF.out x HMW.out
end
end Go.Proofs.YtjjphcnoegaimaaGreat

namespace Go.Proofs.YtjjphcnoegaimaaGreat
open Go.RowKit Go.Shelf Go.Maps
set_option maxRecDepth 20000
set_option linter.unusedVariables false
set_option linter.unusedSimpArgs false

theorem cutA_wf {i b j page : Int} {x : Ino} {M : Wl} (hx : x.Wf) : ∀ z ∈ (cutA i b j x M page).2.1, (Lit.int .u16 z).wf = true := by
  unfold cutA
  split
  · split
    · intro z hz; cases hz
    · exact cutF_wf hx M _ _
  · intro z hz; cases hz
section
variable {w0 w W W' : World} {X : Nat → Prop} {p jb N tb m rb sb : Nat} {M : Wl} {i b j page v : Int} {x : Ino} {lv : Value}
set_option maxHeartbeats 8000000 in
theorem does_cut (h : PL w0 X p jb N tb m rb sb M M W) (hM : Mo M) (hg : GeoN i b j N) (hN : N ≤ 1000000) (hx : x.Wf) (h0 : 0 ≤ v) (h1 : v < 65536) :
    Calls Tryz.prog 35 #[.pointer (some ⟨tb, 0, none⟩), .pointer (some ⟨rb, 0, none⟩), gv i b j, .agg (ic x), .agg #[.int .i64 4, .int .i64 page, .int .u16 v, lv]] W (DoP w0 X p jb N tb m rb sb W) := by
  obtain ⟨A, hA⟩ : ∃ A, cutA i b j x M page = A := ⟨_, rfl⟩
  have hok := cutA_ok (i := i) (b := b) (j := j) (page := page) hx hM
  have hlf := cutA_len (i := i) (b := b) (j := j) (page := page) hx hM
  have hwf := cutA_wf (i := i) (b := b) (j := j) (page := page) (M := M) hx
  rw [hA] at hok hlf hwf
  have HGT := Lib.hid (fun (X2 : Nat → Prop) (W2 : World) (h2 : PL w0 X2 p jb N tb m rb sb M M W2) => bcut_all h2.t hM hg hx page A hA)
  have HGR := Lib.hid (fun (X2 : Nat → Prop) (M' : Wl) (W2 : World) (h2 : PL w0 X2 p jb N tb m rb sb M' M W2) => r9cut_all h2.r hM hN hg hx page A hA)
  obtain ⟨y, F, z, M'⟩ := A
  unfold CutP at HGT
  unfold CutR at HGR
  dsimp only at HGT HGR hok hlf hwf
  have HOK := Lib.hid hok
  have HLF := Lib.hid hlf
  have HWF := Lib.hid hwf
  have HMW := Lib.hid hx
  have ez : (z != z) = false := by simp
  have hey := fun W : World => eq_ino y y W
  rw [show ieq y y = true from decide_eq_true rfl] at hey
  have H := Lib.hid h
  clear hM hg hN hx hA h0 h1 hok hlf hwf h
  unfold gv ic at *
  go_enter Tryz.func35, Tryz.ntmps35
  go_wp2_with fail
  obtain ⟨W1, hW1⟩ : ∃ W1, (((((W.alloc (.cells #[.int .i64 i, .int .i64 b, .int .i64 j] 56)).alloc (.cells #[.int .u8 x.k, .int .u16 x.l, .int .u32 x.s, .int .u16 x.d0, .int .u16 x.d1, .int .u16 x.d2, .int .u16 x.d3, .int .u16 x.n] 61)).alloc (.cells #[.int .i64 4, .int .i64 page, .int .u16 v, lv] 83)).alloc (.cells #[.int .u8 0, .int .u16 0, .int .u32 0, .int .u16 0, .int .u16 0, .int .u16 0, .int .u16 0, .int .u16 0] 61)).alloc (.cells #[.int .u8 0, .int .u16 0, .int .u32 0, .int .u16 0, .int .u16 0, .int .u16 0, .int .u16 0, .int .u16 0] 61)).alloc (.cells #[.int .u8 0, .int .u16 0, .int .u32 0, .int .u16 0, .int .u16 0, .int .u16 0, .int .u16 0, .int .u16 0] 61) = W1 := ⟨_, rfl⟩
  simp only [hW1]
  obtain ⟨bg, hbg⟩ : ∃ bg, W.heap.size = bg := ⟨_, rfl⟩
  obtain ⟨bx, hbx⟩ : ∃ bx, bg + 1 = bx := ⟨_, rfl⟩
  obtain ⟨bs, hbs⟩ : ∃ bs, bx + 1 = bs := ⟨_, rfl⟩
  obtain ⟨br, hbr⟩ : ∃ br, bs + 1 = br := ⟨_, rfl⟩
  obtain ⟨ba, hba⟩ : ∃ ba, br + 1 = ba := ⟨_, rfl⟩
  obtain ⟨bb, hbb⟩ : ∃ bb, ba + 1 = bb := ⟨_, rfl⟩
  simp only [hbg, hbx, hbs, hbr, hba, hbb]
  obtain ⟨X1, h1, k1, hO, hb1⟩ := Bx.start (x := x) H.out hW1 hbg hbx hbs hbr hba hbb
  have HO := Lib.hid hO
  have H1 := Lib.hid h1
  have K1 := Lib.hid k1
  have HBX := Lib.hid hb1
  have ne1 : bx ≠ br := by omega
  have ne2 : br ≠ bx := by omega
  have ne3 : bx ≠ ba := by omega
  have ne4 : ba ≠ bx := by omega
  have ne5 : bx ≠ bb := by omega
  have ne6 : bb ≠ bx := by omega
  have ne7 : br ≠ ba := by omega
  have ne8 : ba ≠ br := by omega
  have ne9 : br ≠ bb := by omega
  have ne10 : bb ≠ br := by omega
  have ne11 : ba ≠ bb := by omega
  have ne12 : bb ≠ ba := by omega
  have ne13 : bg ≠ ba := by omega
  have ne14 : ba ≠ bg := by omega
  have ne15 : bs ≠ ba := by omega
  have ne16 : ba ≠ bs := by omega
  clear hW1 hbg hbx hbs hbr hba hbb hO h1 k1 hb1
  have zg := HBX.out.g
  have zx := HBX.out.x
  have zs := HBX.out.s
  unfold ic at zx
  have g0 := cl_of zg 0
  have g1 := cl_of zg 1
  have g2 := cl_of zg 2
  have q0 := cl_of zx 0
  have q1 := cl_of zx 1
  have q2 := cl_of zx 2
  have q3 := cl_of zx 3
  have q4 := cl_of zx 4
  have q5 := cl_of zx 5
  have q6 := cl_of zx 6
  have q7 := cl_of zx 7
  have t0 := cl_of zs 0
  have t1 := cl_of zs 1
  have t2 := cl_of zs 2
  have t3 := cl_of zs 3
  clear zg zx zs
  go_wp2_with fail
  refine (HGT.out _ _ H1.out).mono ?_
  rintro e w2 ⟨u1, X2, rfl, hrow2, hxx2, hrx2, hT2, hK2⟩
  obtain ⟨h2, k2⟩ := H1.out.stepT hT2 hxx2 hK2
  have bx2 := HBX.out.step H1.out k2 HO.out.xb
  obtain ⟨a1, n1, c1, rfl⟩ := row_slice hrow2
  obtain ⟨W3, hW3⟩ : ∃ W3, w2.alloc (.cells #[.int .u8 y.k, .int .u16 y.l, .int .u32 y.s, .int .u16 y.d0, .int .u16 y.d1, .int .u16 y.d2, .int .u16 y.d3, .int .u16 y.n] 61) = W3 := ⟨_, rfl⟩
  have hB3 : Below w2.heap.size w2 W3 := by rw [← hW3]; exact bnew _ _
  have c3 : W3.heap[w2.heap.size]? = some (.cells (ic y) 61 (0, 0)) := by rw [← hW3]; exact hp_new _ _ rfl
  have h3 := h2.of hB3
  have bx3 := bx2.of hB3
  have hrow3 := row_below hrow2 hB3
  have hl3 : bb < w2.heap.size := blk_lt bx2.b
  obtain ⟨bc, hbc⟩ : ∃ bc, w2.heap.size = bc := ⟨_, rfl⟩
  rw [hbc] at c3 hl3
  have K2 := Lib.hid (k2.t ((h2.keepB hB3).less hxx2))
  have HXX2 := Lib.hid hxx2
  have H3 := Lib.hid h3
  have BX3 := Lib.hid bx3
  have HR3 := Lib.hid hrow3
  have C3 := Lib.hid c3
  have HL3 := Lib.hid hl3
  have BX2 := Lib.hid bx2
  clear g0 g1 g2 q0 q1 q2 q3 q4 q5 q6 q7 t0 t1 t2 t3 hT2 hK2 h2 k2 bx2 h3 bx3 hrow2 hrow3 c3 hl3 hB3 hxx2 hrx2
  have zg := BX3.out.g
  have zx := BX3.out.x
  have zs := BX3.out.s
  unfold ic at zx
  have g0 := cl_of zg 0
  have g1 := cl_of zg 1
  have g2 := cl_of zg 2
  have q0 := cl_of zx 0
  have q1 := cl_of zx 1
  have q2 := cl_of zx 2
  have q3 := cl_of zx 3
  have q4 := cl_of zx 4
  have q5 := cl_of zx 5
  have q6 := cl_of zx 6
  have q7 := cl_of zx 7
  have t0 := cl_of zs 0
  have t1 := cl_of zs 1
  have t2 := cl_of zs 2
  have t3 := cl_of zs 3
  clear zg zx zs
  go_wp2_with fail
  try simp only [hbc, hW3]
  refine (HGR.out _ _ _ H3.out).mono ?_
  rintro e w4 ⟨u2, rfl, hrow4, hp4⟩
  obtain ⟨h4, k4⟩ := H3.out.stepR hp4
  have bx4 := BX3.out.step H3.out k4 ⟨HXX2.out _ HO.out.xb.1, HXX2.out _ HO.out.xb.2.1, HXX2.out _ HO.out.xb.2.2.1, HXX2.out _ HO.out.xb.2.2.2.1, HXX2.out _ HO.out.xb.2.2.2.2.1, HXX2.out _ HO.out.xb.2.2.2.2.2⟩
  have c4 := hp4.blk C3.out (by decide) H3.out.r
  have hrow1 := H3.out.rowR hp4 HR3.out
  obtain ⟨a2, n2, c2, rfl⟩ := row_slice hrow4
  obtain ⟨W5, hW5⟩ : ∃ W5, w4.alloc (.cells #[.int .u8 y.k, .int .u16 y.l, .int .u32 y.s, .int .u16 y.d0, .int .u16 y.d1, .int .u16 y.d2, .int .u16 y.d3, .int .u16 y.n] 61) = W5 := ⟨_, rfl⟩
  have hB5 : Below w4.heap.size w4 W5 := by rw [← hW5]; exact bnew _ _
  have c5 : W5.heap[w4.heap.size]? = some (.cells (ic y) 61 (0, 0)) := by rw [← hW5]; exact hp_new _ _ rfl
  have hl4 := blk_lt c4
  obtain ⟨bd, hbd⟩ : ∃ bd, w4.heap.size = bd := ⟨_, rfl⟩
  have hcd : bc < bd := by omega
  rw [hbd] at c5
  have hsm := same7_any (sli_row (row_below hrow1 hB5) HWF.out) (sli_row (row_below hrow4 hB5) HWF.out) (Nat.le_trans HLF.out (by decide)) (Nat.le_trans HLF.out (by decide))
  rw [show decide (F = F) = true from decide_eq_true rfl] at hsm
  have HSM := Lib.hid hsm
  have K4 := Lib.hid (K2.out.t ((k4.t ((h4.keepB hB5).less (fun _ h => .inl h))).less HXX2.out))
  have HXX4 : Hid (∀ k, X k → X2 k ∨ W3.heap.size ≤ k ∧ k < w4.heap.size) := Lib.hid (fun k h => .inl (HXX2.out _ (HO.out.xx k h)))
  have HXB4 : Hid ((X2 ba ∨ W3.heap.size ≤ ba ∧ ba < w4.heap.size) ∧ (X2 bb ∨ W3.heap.size ≤ bb ∧ bb < w4.heap.size) ∧ (X2 br ∨ W3.heap.size ≤ br ∧ br < w4.heap.size)) := Lib.hid ⟨.inl (HXX2.out _ HO.out.xb.2.2.2.2.1), .inl (HXX2.out _ HO.out.xb.2.2.2.2.2), .inl (HXX2.out _ HO.out.xb.2.2.2.1)⟩
  have H5 := Lib.hid (h4.of hB5)
  have BX5 := Lib.hid (bx4.of hB5)
  have C5 := Lib.hid c5
  have CC5 := Lib.hid (bblk hB5 c4)
  have HCD := Lib.hid hcd
  clear g0 g1 g2 q0 q1 q2 q3 q4 q5 q6 q7 t0 t1 t2 t3 hp4 h4 k4 bx4 c4 hrow1 hrow4 hB5 c5 hl4 hsm hcd hW3 hbc
  go_wp2_with fail
  try simp only [hbd, hW5]
  refine HSM.out.mono ?_
  rintro e w6 ⟨rfl, hB6⟩
  have h6 := H5.out.of hB6
  have bx6 := BX5.out.of hB6
  have cc6 := bblk hB6 CC5.out
  have cd6 := bblk hB6 C5.out
  have k6 := K4.out.t ((H5.out.keepB hB6).less (fun k h => .inl (HXX2.out k h)))
  have ho := HO.out.o
  have hl3 := HL3.out
  have hcd := HCD.out
  have nc1 : bc ≠ ba := by omega
  have nc2 : ba ≠ bc := by omega
  have nc3 : bd ≠ ba := by omega
  have nc4 : ba ≠ bd := by omega
  have nc5 : bd ≠ bb := by omega
  have nc6 : bb ≠ bd := by omega
  have h7 := h6.put8 HXB4.out.1 (by have := HO.out.o; have := HO.out.w; omega) ⟨_, bx6.a⟩ y
  have bx7 := bx6.putA HO.out y
  have cd7 := (put8_other w6 nc3 y).trans cd6
  obtain ⟨W7, hW7⟩ : ∃ W7, put8 w6 ba y = W7 := ⟨_, rfl⟩
  rw [hW7] at h7 bx7 cd7
  have k7 : KeepP X m rb w6 W7 := by rw [← hW7]; exact keepPut8 HO.out.lt (by omega) y
  have h8 := h7.put8 HXB4.out.2.1 (by have := HO.out.o; have := HO.out.w; omega) ⟨_, bx7.b⟩ y
  have bx8 := bx7.putB HO.out y
  obtain ⟨W8, hW8⟩ : ∃ W8, put8 W7 bb y = W8 := ⟨_, rfl⟩
  rw [hW8] at h8 bx8
  have k8 : KeepP X m rb W7 W8 := by rw [← hW8]; exact keepPut8 HO.out.lt (by omega) y
  have hk : KeepP X m rb W W8 := ((K1.out.t (k6.less HO.out.xx)).t k7).t k8
  have HK := Lib.hid hk
  have H8 := Lib.hid h8
  have BX6 := Lib.hid bx6
  have BX7 := Lib.hid bx7
  have BX8 := Lib.hid bx8
  have hfin : ∀ u : Ino, u.Wf → DoP w0 X p jb N tb m rb sb W (.returned (.tuple #[.agg (ic u), .bool true])) (put8 W8 br u) := fun u hu =>
    ⟨u, M', _, rfl, H8.out.put8 HXB4.out.2.2 (by have := HO.out.o; have := HO.out.w; omega) ⟨_, BX8.out.r⟩ u, HOK.out.2.1, hu, HXX4.out, HK.out.t (keepPut8 HO.out.lt (by have := HO.out.o; omega) u)⟩
  have HF := Lib.hid hfin
  have HCC6 := Lib.hid cc6
  have HCD7 := Lib.hid cd7
  unfold put8 at hW7 hW8
  clear h6 bx6 cc6 cd6 k6 ho hl3 hcd h7 bx7 cd7 k7 h8 bx8 k8 hk hfin hB6 hW5 hbd nc1 nc2 nc3 nc4 nc5 nc6
  have zz := HCC6.out
  unfold ic at zz
  have d0 := cl_of zz 0
  have d1 := cl_of zz 1
  have d2 := cl_of zz 2
  have d3 := cl_of zz 3
  have d4 := cl_of zz 4
  have d5 := cl_of zz 5
  have d6 := cl_of zz 6
  have d7 := cl_of zz 7
  clear zz
  have zz := HCD7.out
  unfold ic at zz
  have f0 := cl_of zz 0
  have f1 := cl_of zz 1
  have f2 := cl_of zz 2
  have f3 := cl_of zz 3
  have f4 := cl_of zz 4
  have f5 := cl_of zz 5
  have f6 := cl_of zz 6
  have f7 := cl_of zz 7
  clear zz
  have zz := BX6.out.a
  unfold ic Ino.zero at zz
  have a0 := cl_of zz 0
  have a1 := cl_of zz 1
  have a2 := cl_of zz 2
  have a3 := cl_of zz 3
  have a4 := cl_of zz 4
  have a5 := cl_of zz 5
  have a6 := cl_of zz 6
  have a7 := cl_of zz 7
  have az := fz_of zz
  clear zz
  have zz := BX7.out.b
  unfold ic Ino.zero at zz
  have b0 := cl_of zz 0
  have b1 := cl_of zz 1
  have b2 := cl_of zz 2
  have b3 := cl_of zz 3
  have b4 := cl_of zz 4
  have b5 := cl_of zz 5
  have b6 := cl_of zz 6
  have b7 := cl_of zz 7
  have bz := fz_of zz
  clear zz
  have zz := BX8.out.a
  unfold ic at zz
  have m0 := cl_of zz 0
  have m1 := cl_of zz 1
  have m2 := cl_of zz 2
  have m3 := cl_of zz 3
  have m4 := cl_of zz 4
  have m5 := cl_of zz 5
  have m6 := cl_of zz 6
  have m7 := cl_of zz 7
  have mz := fz_of zz
  clear zz
  have zz := BX8.out.b
  unfold ic at zz
  have c0 := cl_of zz 0
  have c1 := cl_of zz 1
  have c2 := cl_of zz 2
  have c3 := cl_of zz 3
  have c4 := cl_of zz 4
  have c5 := cl_of zz 5
  have c6 := cl_of zz 6
  have c7 := cl_of zz 7
  have cz := fz_of zz
  clear zz
  have zg := BX8.out.g
  have zx := BX8.out.x
  unfold ic at zx
  have g0 := cl_of zg 0
  have g1 := cl_of zg 1
  have g2 := cl_of zg 2
  have q0 := cl_of zx 0
  have q1 := cl_of zx 1
  have q2 := cl_of zx 2
  have q3 := cl_of zx 3
  have q4 := cl_of zx 4
  have q5 := cl_of zx 5
  have q6 := cl_of zx 6
  have q7 := cl_of zx 7
  clear zg zx
  have zz := BX8.out.r
  unfold ic Ino.zero at zz
  have r0 := cl_of zz 0
  have r1 := cl_of zz 1
  have r2 := cl_of zz 2
  have r3 := cl_of zz 3
  have r4 := cl_of zz 4
  have r5 := cl_of zz 5
  have r6 := cl_of zz 6
  have r7 := cl_of zz 7
  have rz := fz_of zz
  clear zz
  by_cases hz : z = 0
  · have e2 : (z != 0) = false := by simpa using hz
    clear hz
    go_wp2_with fail
    refine bodyPost_ret (v := .tuple #[.agg (ic y), .bool true]) (by simp [results, Tryz.results35, go_sem, ic, ne1, ne2, r0, r1, r2, r3, r4, r5, r6, r7, c0, c1, c2, c3, c4, c5, c6, c7]) rfl ?_
    exact HF.out y HOK.out.1
  · have e2 : (z != 0) = true := by simpa using hz
    clear hz
    go_wp2_with fail
    refine bodyPost_ret (v := .tuple #[.agg (ic x), .bool true]) (by simp [results, Tryz.results35, go_sem, ic, ne1, ne2, r0, r1, r2, r3, r4, r5, r6, r7, q0, q1, q2, q3, q4, q5, q6, q7]) rfl ?_
    exact HF.out x HMW.out
set_option maxHeartbeats 8000000 in
theorem does_all (h : PL w0 X p jb N tb m rb sb M M W) (hM : Mo M) (hg : GeoN i b j N) (hN : N ≤ 1000000) (hx : x.Wf) (h0 : 0 ≤ v) (h1 : v < 65536) :
    Calls Tryz.prog 35 #[.pointer (some ⟨tb, 0, none⟩), .pointer (some ⟨rb, 0, none⟩), gv i b j, .agg (ic x), .agg #[.int .i64 3, .int .i64 page, .int .u16 v, lv]] W (DoP w0 X p jb N tb m rb sb W) := by
  obtain ⟨A, hA⟩ : ∃ A, cutA i b j x M 0 = A := ⟨_, rfl⟩
  have hok := cutA_ok (i := i) (b := b) (j := j) (page := 0) hx hM
  have hlf := cutA_len (i := i) (b := b) (j := j) (page := 0) hx hM
  have hwf := cutA_wf (i := i) (b := b) (j := j) (page := 0) (M := M) hx
  rw [hA] at hok hlf hwf
  have HGT := Lib.hid (fun (X2 : Nat → Prop) (W2 : World) (h2 : PL w0 X2 p jb N tb m rb sb M M W2) => ball_all h2.t hM hg hx A hA)
  have HGR := Lib.hid (fun (X2 : Nat → Prop) (M' : Wl) (W2 : World) (h2 : PL w0 X2 p jb N tb m rb sb M' M W2) => r9all_all h2.r hM hN hg hx A hA)
  obtain ⟨y, F, z, M'⟩ := A
  dsimp only at HGT HGR hok hlf hwf
  have HOK := Lib.hid hok
  have HLF := Lib.hid hlf
  have HWF := Lib.hid hwf
  have HMW := Lib.hid hx
  have ez : (z == z) = true := by simp
  have H := Lib.hid h
  clear hM hg hN hx hA h0 h1 hok hlf hwf h
  unfold gv ic at *
  go_enter Tryz.func35, Tryz.ntmps35
  go_wp2_with fail
  obtain ⟨W1, hW1⟩ : ∃ W1, (((((W.alloc (.cells #[.int .i64 i, .int .i64 b, .int .i64 j] 56)).alloc (.cells #[.int .u8 x.k, .int .u16 x.l, .int .u32 x.s, .int .u16 x.d0, .int .u16 x.d1, .int .u16 x.d2, .int .u16 x.d3, .int .u16 x.n] 61)).alloc (.cells #[.int .i64 3, .int .i64 page, .int .u16 v, lv] 83)).alloc (.cells #[.int .u8 0, .int .u16 0, .int .u32 0, .int .u16 0, .int .u16 0, .int .u16 0, .int .u16 0, .int .u16 0] 61)).alloc (.cells #[.int .u8 0, .int .u16 0, .int .u32 0, .int .u16 0, .int .u16 0, .int .u16 0, .int .u16 0, .int .u16 0] 61)).alloc (.cells #[.int .u8 0, .int .u16 0, .int .u32 0, .int .u16 0, .int .u16 0, .int .u16 0, .int .u16 0, .int .u16 0] 61) = W1 := ⟨_, rfl⟩
  simp only [hW1]
  obtain ⟨bg, hbg⟩ : ∃ bg, W.heap.size = bg := ⟨_, rfl⟩
  obtain ⟨bx, hbx⟩ : ∃ bx, bg + 1 = bx := ⟨_, rfl⟩
  obtain ⟨bs, hbs⟩ : ∃ bs, bx + 1 = bs := ⟨_, rfl⟩
  obtain ⟨br, hbr⟩ : ∃ br, bs + 1 = br := ⟨_, rfl⟩
  obtain ⟨ba, hba⟩ : ∃ ba, br + 1 = ba := ⟨_, rfl⟩
  obtain ⟨bb, hbb⟩ : ∃ bb, ba + 1 = bb := ⟨_, rfl⟩
  simp only [hbg, hbx, hbs, hbr, hba, hbb]
  obtain ⟨X1, h1, k1, hO, hb1⟩ := Bx.start (x := x) H.out hW1 hbg hbx hbs hbr hba hbb
  have HO := Lib.hid hO
  have H1 := Lib.hid h1
  have K1 := Lib.hid k1
  have HBX := Lib.hid hb1
  have ne1 : bx ≠ br := by omega
  have ne2 : br ≠ bx := by omega
  have ne3 : bx ≠ ba := by omega
  have ne4 : ba ≠ bx := by omega
  have ne5 : bx ≠ bb := by omega
  have ne6 : bb ≠ bx := by omega
  have ne7 : br ≠ ba := by omega
  have ne8 : ba ≠ br := by omega
  have ne9 : br ≠ bb := by omega
  have ne10 : bb ≠ br := by omega
  have ne11 : ba ≠ bb := by omega
  have ne12 : bb ≠ ba := by omega
  have ne13 : bg ≠ ba := by omega
  have ne14 : ba ≠ bg := by omega
  have ne15 : bs ≠ ba := by omega
  have ne16 : ba ≠ bs := by omega
  clear hW1 hbg hbx hbs hbr hba hbb hO h1 k1 hb1
  have zg := HBX.out.g
  have zx := HBX.out.x
  have zs := HBX.out.s
  unfold ic at zx
  have g0 := cl_of zg 0
  have g1 := cl_of zg 1
  have g2 := cl_of zg 2
  have q0 := cl_of zx 0
  have q1 := cl_of zx 1
  have q2 := cl_of zx 2
  have q3 := cl_of zx 3
  have q4 := cl_of zx 4
  have q5 := cl_of zx 5
  have q6 := cl_of zx 6
  have q7 := cl_of zx 7
  have t0 := cl_of zs 0
  have t1 := cl_of zs 1
  have t2 := cl_of zs 2
  have t3 := cl_of zs 3
  clear zg zx zs
  go_wp2_with fail
  refine (HGT.out _ _ H1.out).mono ?_
  rintro e w2 ⟨u1, X2, rfl, hrow2, hxx2, hrx2, hT2, hK2⟩
  obtain ⟨h2, k2⟩ := H1.out.stepT hT2 hxx2 hK2
  have bx2 := HBX.out.step H1.out k2 HO.out.xb
  obtain ⟨a1, n1, c1, rfl⟩ := row_slice hrow2
  have K2 := Lib.hid k2
  have HXX2 := Lib.hid hxx2
  have H2 := Lib.hid h2
  have BX2 := Lib.hid bx2
  have HR2 := Lib.hid hrow2
  clear g0 g1 g2 q0 q1 q2 q3 q4 q5 q6 q7 t0 t1 t2 t3 hT2 hK2 h2 k2 bx2 hrow2 hxx2 hrx2
  have zg := BX2.out.g
  have zx := BX2.out.x
  have zs := BX2.out.s
  unfold ic at zx
  have g0 := cl_of zg 0
  have g1 := cl_of zg 1
  have g2 := cl_of zg 2
  have q0 := cl_of zx 0
  have q1 := cl_of zx 1
  have q2 := cl_of zx 2
  have q3 := cl_of zx 3
  have q4 := cl_of zx 4
  have q5 := cl_of zx 5
  have q6 := cl_of zx 6
  have q7 := cl_of zx 7
  have t0 := cl_of zs 0
  have t1 := cl_of zs 1
  have t2 := cl_of zs 2
  have t3 := cl_of zs 3
  clear zg zx zs
  go_wp2_with fail
  refine (HGR.out _ _ _ H2.out).mono ?_
  rintro e w4 ⟨u2, rfl, hrow4, hp4⟩
  obtain ⟨h4, k4⟩ := H2.out.stepR hp4
  have bx4 := BX2.out.step H2.out k4 ⟨HXX2.out _ HO.out.xb.1, HXX2.out _ HO.out.xb.2.1, HXX2.out _ HO.out.xb.2.2.1, HXX2.out _ HO.out.xb.2.2.2.1, HXX2.out _ HO.out.xb.2.2.2.2.1, HXX2.out _ HO.out.xb.2.2.2.2.2⟩
  have hrow1 := H2.out.rowR hp4 HR2.out
  obtain ⟨a2, n2, c2, rfl⟩ := row_slice hrow4
  have hsm : ∀ Wz, Below w4.heap.size w4 Wz → Calls Tryz.prog 55 #[.slice a1 n1 c1, .slice a2 n2 c2] Wz fun e W' => e = .returned (.bool true) ∧ Below w4.heap.size w4 W' := fun Wz hB => by
    refine (same7_any (sli_row (row_below hrow1 hB) HWF.out) (sli_row (row_below hrow4 hB) HWF.out) (Nat.le_trans HLF.out (by decide)) (Nat.le_trans HLF.out (by decide))).mono ?_
    rintro e W' ⟨rfl, hB2⟩
    exact ⟨by rw [show decide (F = F) = true from decide_eq_true rfl], bt hB hB2⟩
  have HSM := Lib.hid hsm
  have K4 := Lib.hid (K2.out.t (k4.less HXX2.out))
  have HXX2' : Hid (∀ k, X1 k → X2 k ∨ w2.heap.size ≤ k ∧ k < w4.heap.size) := Lib.hid (fun k h => .inl (HXX2.out _ h))
  have HXX4 : Hid (∀ k, X k → X2 k ∨ w2.heap.size ≤ k ∧ k < w4.heap.size) := Lib.hid (fun k h => .inl (HXX2.out _ (HO.out.xx k h)))
  have HXB4 : Hid (X2 br ∨ w2.heap.size ≤ br ∧ br < w4.heap.size) := Lib.hid (.inl (HXX2.out _ HO.out.xb.2.2.2.1))
  have H4 := Lib.hid h4
  have BX4 := Lib.hid bx4
  have hkeep : ∀ Wz, Below w4.heap.size w4 Wz → Wz.cell? ⟨bx, 0, none⟩ = some (.int .u8 x.k) ∧ Wz.cell? ⟨bx, 1, none⟩ = some (.int .u16 x.l) ∧ Wz.cell? ⟨bx, 2, none⟩ = some (.int .u32 x.s) ∧ Wz.cell? ⟨bx, 3, none⟩ = some (.int .u16 x.d0) ∧ Wz.cell? ⟨bx, 4, none⟩ = some (.int .u16 x.d1) ∧ Wz.cell? ⟨bx, 5, none⟩ = some (.int .u16 x.d2) ∧ Wz.cell? ⟨bx, 6, none⟩ = some (.int .u16 x.d3) ∧ Wz.cell? ⟨bx, 7, none⟩ = some (.int .u16 x.n) := fun Wz hB => by
    have zx := (BX4.out.of hB).x
    exact ⟨cl_of zx 0, cl_of zx 1, cl_of zx 2, cl_of zx 3, cl_of zx 4, cl_of zx 5, cl_of zx 6, cl_of zx 7⟩
  have HKP := Lib.hid hkeep
  have hfin : ∀ Wz, Below w4.heap.size w4 Wz → DoP w0 X p jb N tb m rb sb W (.returned (.tuple #[.agg (ic x), .bool true])) (put8 Wz br x) := fun Wz hB =>
    ⟨x, M', _, rfl, (H4.out.of hB).put8 HXB4.out (by have := HO.out.o; have := HO.out.w; omega) ⟨_, (BX4.out.of hB).r⟩ x, HOK.out.2.1, HMW.out, HXX4.out, (K1.out.t ((K4.out.t ((H4.out.keepB hB).less HXX2'.out)).less HO.out.xx)).t (keepPut8 HO.out.lt (by have := HO.out.o; omega) x)⟩
  have HF := Lib.hid hfin
  have hpr : ∀ Wz, Below w4.heap.size w4 Wz → Wz.heap[br]? = some (.cells (ic Ino.zero) 61 (0, 0)) := fun Wz hB => (BX4.out.of hB).r
  have HPR := Lib.hid hpr
  have hks : ∀ Wz, Below w4.heap.size w4 Wz → (fun Wq => Wq.cell? ⟨bx, 0, none⟩ = some (.int .u8 x.k) ∧ Wq.cell? ⟨bx, 1, none⟩ = some (.int .u16 x.l) ∧ Wq.cell? ⟨bx, 2, none⟩ = some (.int .u32 x.s) ∧ Wq.cell? ⟨bx, 3, none⟩ = some (.int .u16 x.d0) ∧ Wq.cell? ⟨bx, 4, none⟩ = some (.int .u16 x.d1) ∧ Wq.cell? ⟨bx, 5, none⟩ = some (.int .u16 x.d2) ∧ Wq.cell? ⟨bx, 6, none⟩ = some (.int .u16 x.d3) ∧ Wq.cell? ⟨bx, 7, none⟩ = some (.int .u16 x.n)) (put8 Wz br x) := fun Wz hB => by
    have zx := (put8_other Wz ne1 x).trans (BX4.out.of hB).x
    exact ⟨cl_of zx 0, cl_of zx 1, cl_of zx 2, cl_of zx 3, cl_of zx 4, cl_of zx 5, cl_of zx 6, cl_of zx 7⟩
  have HKS := Lib.hid hks
  clear hks
  have q := hkeep w4 (Below.refl _ _)
  have HB0 : Hid (Below w4.heap.size w4 w4) := Lib.hid (Below.refl _ _)
  clear g0 g1 g2 q0 q1 q2 q3 q4 q5 q6 q7 t0 t1 t2 t3 hp4 h4 k4 bx4 hrow1 hrow4 hsm hkeep hfin hpr
  go_wp2_with fail
  apply region_mid (R := fun _ W' => ∃ Wz, Below w4.heap.size w4 Wz ∧ W' = put8 Wz br x)
  case h =>
    refine wp_region_held_drew (S := (fun Wq => Wq.cell? ⟨bx, 0, none⟩ = some (.int .u8 x.k) ∧ Wq.cell? ⟨bx, 1, none⟩ = some (.int .u16 x.l) ∧ Wq.cell? ⟨bx, 2, none⟩ = some (.int .u32 x.s) ∧ Wq.cell? ⟨bx, 3, none⟩ = some (.int .u16 x.d0) ∧ Wq.cell? ⟨bx, 4, none⟩ = some (.int .u16 x.d1) ∧ Wq.cell? ⟨bx, 5, none⟩ = some (.int .u16 x.d2) ∧ Wq.cell? ⟨bx, 6, none⟩ = some (.int .u16 x.d3) ∧ Wq.cell? ⟨bx, 7, none⟩ = some (.int .u16 x.n))) (by kernel_rfl) (by exact q) (fun hHeld => ?_)
    refine wpAnyH_now (i := 0) (v := ?v0) rfl (by kernel_rfl) (by kernel_rfl) (by kernel_rfl) (fun _ _ _ h => h) (by rfl) ?h0 (by assumption) ?_
    case h0 => ((intro w hSw; (try dsimp only at hSw); go_simp); try with_reducible rfl)
    (try simp only [Act.put, List.setIfInBounds_toArray, List.set_cons_succ, List.set_cons_zero])
    refine wpAnyH_now (i := 1) (v := ?v1) rfl (by kernel_rfl) (by kernel_rfl) (by kernel_rfl) (fun _ _ _ h => h) (by rfl) ?h1 (by assumption) ?_
    case h1 => ((intro w hSw; (try dsimp only at hSw); go_simp); try with_reducible rfl)
    (try simp only [Act.put, List.setIfInBounds_toArray, List.set_cons_succ, List.set_cons_zero])
    refine wpAnyH_now (i := 2) (v := ?v2) rfl (by kernel_rfl) (by kernel_rfl) (by kernel_rfl) (fun _ _ _ h => h) (by rfl) ?h2 (by assumption) ?_
    case h2 => ((intro w hSw; (try dsimp only at hSw); go_simp); try with_reducible rfl)
    (try simp only [Act.put, List.setIfInBounds_toArray, List.set_cons_succ, List.set_cons_zero])
    refine wpAnyH_only (i := 3) (by kernel_rfl) rfl (by rfl) (fun K hK => ?_)
    go_simp
    refine (HSM.out _ (Below.refl _ w4).drew).mono ?_
    rintro e w5 ⟨rfl, hB5⟩
    refine hK.out _ _ (by exact HKP.out _ hB5) (fun hHeld => ?_)
    clear hK K
    (try simp only [Act.put, List.setIfInBounds_toArray, List.set_cons_succ, List.set_cons_zero])
    have hr5 := HPR.out _ hB5
    unfold ic Ino.zero at hr5
    have r0 := cl_of hr5 0
    have r1 := cl_of hr5 1
    have r2 := cl_of hr5 2
    have r3 := cl_of hr5 3
    have r4 := cl_of hr5 4
    have r5 := cl_of hr5 5
    have r6 := cl_of hr5 6
    have r7 := cl_of hr5 7
    have rz := fz_of hr5
    clear hr5
    refine wpAnyH_now (i := 4) (v := ?v3) rfl (by kernel_rfl) (by kernel_rfl) (by kernel_rfl) (fun _ _ _ h => h) (by rfl) ?h3 (by assumption) ?_
    case h3 => ((intro w hSw; (try dsimp only at hSw); go_simp); try with_reducible rfl)
    (try simp only [Act.put, List.setIfInBounds_toArray, List.set_cons_succ, List.set_cons_zero])
    refine wpAnyH_now (i := 5) (v := ?v4) rfl (by kernel_rfl) (by kernel_rfl) (by kernel_rfl) (fun _ _ _ h => h) (by rfl) ?h4 (by assumption) ?_
    case h4 => ((intro w hSw; (try dsimp only at hSw); go_simp); try with_reducible rfl)
    (try simp only [Act.put, List.setIfInBounds_toArray, List.set_cons_succ, List.set_cons_zero])
    refine wpAnyH_now (i := 6) (v := ?v5) rfl (by kernel_rfl) (by kernel_rfl) (by kernel_rfl) (fun _ _ _ h => h) (by rfl) ?h5 (by assumption) ?_
    case h5 => ((intro w hSw; (try dsimp only at hSw); go_simp); try with_reducible rfl)
    (try simp only [Act.put, List.setIfInBounds_toArray, List.set_cons_succ, List.set_cons_zero])
    refine wpAnyH_now (i := 7) (v := ?v6) rfl (by kernel_rfl) (by kernel_rfl) (by kernel_rfl) (fun _ _ _ h => h) (by rfl) ?h6 (by assumption) ?_
    case h6 => ((intro w hSw; (try dsimp only at hSw); go_simp); try with_reducible rfl)
    (try simp only [Act.put, List.setIfInBounds_toArray, List.set_cons_succ, List.set_cons_zero])
    refine wpAnyH_now (i := 8) (v := ?v7) rfl (by kernel_rfl) (by kernel_rfl) (by kernel_rfl) (fun _ _ _ h => h) (by rfl) ?h7 (by assumption) ?_
    case h7 => ((intro w hSw; (try dsimp only at hSw); go_simp); try with_reducible rfl)
    (try simp only [Act.put, List.setIfInBounds_toArray, List.set_cons_succ, List.set_cons_zero])
    refine wpAnyH_only (i := 9) (by kernel_rfl) rfl (by rfl) (fun K hK => ?_)
    go_simp
    refine hK.out _ _ (by exact HKS.out _ hB5) (fun hHeld => ?_)
    clear hK K
    (try simp only [Act.put, List.setIfInBounds_toArray, List.set_cons_succ, List.set_cons_zero])
    refine wpAnyH_now (i := 10) (v := ?v8) rfl (by kernel_rfl) (by kernel_rfl) (by kernel_rfl) (fun _ _ _ h => h) (by rfl) ?h8 (by assumption) ?_
    case h8 => ((intro w hSw; (try dsimp only at hSw); go_simp); try with_reducible rfl)
    (try simp only [Act.put, List.setIfInBounds_toArray, List.set_cons_succ, List.set_cons_zero])
    refine wpAnyH_done (by kernel_rfl) ?_ _
    refine NoPanic.normal ?_
    obtain ⟨nv, -⟩ : ∃ nv : Nat, nv = 0 := ⟨0, rfl⟩
    exact ⟨rfl, nv, rfl, _, hB5, rfl⟩
  case hc =>
    rintro nb w6 ⟨Wz, hBz, rfl⟩
    have HBZ := Lib.hid hBz
    have hr6 := put8_here (HPR.out _ hBz) x
    unfold ic at hr6
    have r0 := cl_of hr6 0
    have r1 := cl_of hr6 1
    have r2 := cl_of hr6 2
    have r3 := cl_of hr6 3
    have r4 := cl_of hr6 4
    have r5 := cl_of hr6 5
    have r6 := cl_of hr6 6
    have r7 := cl_of hr6 7
    have HFF := Lib.hid (HF.out _ hBz)
    clear hBz hr6
    go_wp2_with fail
    refine bodyPost_ret (v := .tuple #[.agg (ic x), .bool true]) (by simp [results, Tryz.results35, go_sem, ic, ne1, ne2, r0, r1, r2, r3, r4, r5, r6, r7]) rfl ?_
    exact HFF.out
end
end Go.Proofs.YtjjphcnoegaimaaGreat

namespace Go.Proofs.YtjjphcnoegaimaaGreat
open Go.RowKit Go.Shelf Go.Maps
set_option maxRecDepth 20000
set_option linter.unusedVariables false
set_option linter.unusedSimpArgs false

section
variable {w0 w W W' : World} {X : Nat → Prop} {p jb N tb m rb sb bg bx bs br ba bb : Nat} {M M2 : Wl} {x r a b : Ino} {GG : Array Value} {op page v : Int} {lv : Value}
/-- A write of the transaction. -/
theorem PL.tw (h : PL w0 X p jb N tb m rb sb M M2 W) (n : Nat) (hn : n < N) (c : ByteArray) (hc : c.size = 64) (z : Int) (hz : (if (pget n M).isSome = true ∨ M.length < 37 then (0 : Int) else 4) = z) :
    Calls Tryz.prog 15 #[.pointer (some ⟨tb, 0, none⟩), .int .i64 n, .string c] W fun e W' => e = .returned (.int .i64 z) ∧ PL w0 X p jb N tb m rb sb (rput n c M 37) M2 W' ∧ KeepP X m rb W W' := by
  refine (tx_write h.t n hn c hc (mx := 37) (by unfold IsMost places; decide) (by decide)).mono ?_
  rintro e W1 (⟨hy, rfl, hT, hK⟩ | ⟨hno, rfl, hT, hB⟩)
  · rw [if_pos hy] at hz
    subst hz
    have hr : rput n c M 37 = pins n c M := if_pos hy
    rw [hr]
    obtain ⟨a, b⟩ := h.stepT hT (fun _ h => h) hK
    exact ⟨rfl, a, b⟩
  · have hn2 : ¬ ((pget n M).isSome = true ∨ M.length < 37) := by rw [hno.1]; simp; omega
    rw [if_neg hn2] at hz
    subst hz
    have hr : rput n c M 37 = M := if_neg hn2
    rw [hr]
    exact ⟨rfl, h.of hB, h.keepB hB⟩
/-- A write of the document's. -/
theorem PL.rw (h : PL w0 X p jb N tb m rb sb M2 M W) (hM : Mo M) (hN : N ≤ 1000000) (n : Nat) (hn : n < N) (c : ByteArray) (hc : c.size = 64) (z : Int) (hz : (if (pget n M).isSome = true ∨ M.length < 37 then (0 : Int) else 4) = z) :
    Calls Tryz.prog 16 #[.pointer (some ⟨rb, 0, none⟩), .int .i64 n, .string c] W fun e W' => e = .returned (.int .i64 z) ∧ PL w0 (fun k => X k ∨ W.heap.size ≤ k ∧ k < W'.heap.size) p jb N tb m rb sb M2 (rput n c M 37) W' ∧ KeepP X m rb W W' := by
  refine (rwr_any h.r hM.len n hn hN c hc).mono ?_
  rintro e W1 ⟨rfl, hp⟩
  obtain ⟨a, b⟩ := h.stepR hp
  exact ⟨by rw [hz], a, b⟩
theorem Bx.cells (h : Bx bg bx bs br ba bb GG x #[.int .i64 op, .int .i64 page, .int .u16 v, lv] r a b W) : (W.cell? ⟨bx, 0, none⟩ = some (.int .u8 x.k) ∧ W.cell? ⟨bx, 1, none⟩ = some (.int .u16 x.l) ∧ W.cell? ⟨bx, 2, none⟩ = some (.int .u32 x.s) ∧ W.cell? ⟨bx, 3, none⟩ = some (.int .u16 x.d0) ∧ W.cell? ⟨bx, 4, none⟩ = some (.int .u16 x.d1) ∧ W.cell? ⟨bx, 5, none⟩ = some (.int .u16 x.d2) ∧ W.cell? ⟨bx, 6, none⟩ = some (.int .u16 x.d3) ∧ W.cell? ⟨bx, 7, none⟩ = some (.int .u16 x.n) ∧ W.cell? ⟨bs, 3, none⟩ = some lv) := by
  have zx := h.x
  have zs := h.s
  exact ⟨cl_of zx 0, cl_of zx 1, cl_of zx 2, cl_of zx 3, cl_of zx 4, cl_of zx 5, cl_of zx 6, cl_of zx 7, cl_of zs 3⟩
theorem bxcells_put (h : (W.cell? ⟨bx, 0, none⟩ = some (.int .u8 x.k) ∧ W.cell? ⟨bx, 1, none⟩ = some (.int .u16 x.l) ∧ W.cell? ⟨bx, 2, none⟩ = some (.int .u32 x.s) ∧ W.cell? ⟨bx, 3, none⟩ = some (.int .u16 x.d0) ∧ W.cell? ⟨bx, 4, none⟩ = some (.int .u16 x.d1) ∧ W.cell? ⟨bx, 5, none⟩ = some (.int .u16 x.d2) ∧ W.cell? ⟨bx, 6, none⟩ = some (.int .u16 x.d3) ∧ W.cell? ⟨bx, 7, none⟩ = some (.int .u16 x.n) ∧ W.cell? ⟨bs, 3, none⟩ = some lv)) (hn : bx ≠ br) (hn2 : bs ≠ br) (y : Ino) : ((put8 W br y).cell? ⟨bx, 0, none⟩ = some (.int .u8 x.k) ∧ (put8 W br y).cell? ⟨bx, 1, none⟩ = some (.int .u16 x.l) ∧ (put8 W br y).cell? ⟨bx, 2, none⟩ = some (.int .u32 x.s) ∧ (put8 W br y).cell? ⟨bx, 3, none⟩ = some (.int .u16 x.d0) ∧ (put8 W br y).cell? ⟨bx, 4, none⟩ = some (.int .u16 x.d1) ∧ (put8 W br y).cell? ⟨bx, 5, none⟩ = some (.int .u16 x.d2) ∧ (put8 W br y).cell? ⟨bx, 6, none⟩ = some (.int .u16 x.d3) ∧ (put8 W br y).cell? ⟨bx, 7, none⟩ = some (.int .u16 x.n) ∧ (put8 W br y).cell? ⟨bs, 3, none⟩ = some lv) := by
  have hs : ∀ k o, k ≠ br → (put8 W br y).cell? ⟨k, o, none⟩ = W.cell? ⟨k, o, none⟩ := fun k o hk => World.cell?_of_block (put8_other W hk y)
  rw [hs _ _ hn, hs _ _ hn, hs _ _ hn, hs _ _ hn, hs _ _ hn, hs _ _ hn, hs _ _ hn, hs _ _ hn, hs _ _ hn2]
  exact h
end
section
variable {w0 w W W' : World} {X : Nat → Prop} {p jb N tb m rb sb : Nat} {M : Wl} {i b j page v : Int} {x : Ino} {lv : Value}
set_option maxHeartbeats 8000000 in
theorem does_write (h : PL w0 X p jb N tb m rb sb M M W) (hM : Mo M) (hg : GeoN i b j N) (hN : N ≤ 1000000) (hx : x.Wf) (h0 : 0 ≤ v) (h1 : v < 65536) {op : Int} (ho : op ≠ 0 ∧ op ≠ 3 ∧ op ≠ 1 ∧ op ≠ 2 ∧ op ≠ 4) {zs : List Int} (hl : SlI .u16 w0 lv zs) :
    Calls Tryz.prog 35 #[.pointer (some ⟨tb, 0, none⟩), .pointer (some ⟨rb, 0, none⟩), gv i b j, .agg (ic x), .agg #[.int .i64 op, .int .i64 page, .int .u16 v, lv]] W (DoP w0 X p jb N tb m rb sb W) := by
  have hsl : ∀ Wz, Below w0.heap.size w0 Wz → SlI .u16 Wz lv zs := fun Wz hB => by
    obtain ⟨⟨ao, cap, e, hc⟩, hw⟩ := hl
    refine ⟨⟨ao, cap, e, fun h0 => ?_⟩, hw⟩
    obtain ⟨b, off, e2, hb, hcc⟩ := hc h0
    exact ⟨b, off, e2, Nat.lt_of_lt_of_le hb hB.size, fun j hj => (hB.cell (p := ⟨b, off + j, none⟩) hb).trans (hcc j hj)⟩
  have hto : ∀ Wz, Below w0.heap.size w0 Wz → Calls Tryz.prog 68 #[lv] Wz fun e W' => e = .returned (.string (toldB zs)) ∧ Below Wz.heap.size Wz W' := fun Wz hB => told9_any (hsl Wz hB)
  have hcs := toldB_size zs
  generalize toldB zs = c at *
  have HTO := Lib.hid hto
  have HMW := Lib.hid (And.intro hM hx)
  have e0 : (op == 0) = false := by simp [ho.1]
  have e3 : (op == 3) = false := by simp [ho.2.1]
  have e1 : (op == 1) = false := by simp [ho.2.2.1]
  have e2 : (op == 2) = false := by simp [ho.2.2.2.1]
  have e4 : (op == 4) = false := by simp [ho.2.2.2.2]
  by_cases hv : 1 ≤ v ∧ v ≤ b
  rotate_left
  · have hblk := fun W => block_no (i := i) (b := b) (j := j) (n := v) (fun hh => hv hh.2) h0 h1 W
    have HBL := Lib.hid hblk
    clear hblk hsl hto hcs
    have H := Lib.hid h
    clear hM hg hN hx h0 h1 ho hl hv h
    unfold gv ic at *
    go_enter Tryz.func35, Tryz.ntmps35
    go_wp2_with fail
    obtain ⟨W1, hW1⟩ : ∃ W1, (((((W.alloc (.cells #[.int .i64 i, .int .i64 b, .int .i64 j] 56)).alloc (.cells #[.int .u8 x.k, .int .u16 x.l, .int .u32 x.s, .int .u16 x.d0, .int .u16 x.d1, .int .u16 x.d2, .int .u16 x.d3, .int .u16 x.n] 61)).alloc (.cells #[.int .i64 op, .int .i64 page, .int .u16 v, lv] 83)).alloc (.cells #[.int .u8 0, .int .u16 0, .int .u32 0, .int .u16 0, .int .u16 0, .int .u16 0, .int .u16 0, .int .u16 0] 61)).alloc (.cells #[.int .u8 0, .int .u16 0, .int .u32 0, .int .u16 0, .int .u16 0, .int .u16 0, .int .u16 0, .int .u16 0] 61)).alloc (.cells #[.int .u8 0, .int .u16 0, .int .u32 0, .int .u16 0, .int .u16 0, .int .u16 0, .int .u16 0, .int .u16 0] 61) = W1 := ⟨_, rfl⟩
    simp only [hW1]
    obtain ⟨bg, hbg⟩ : ∃ bg, W.heap.size = bg := ⟨_, rfl⟩
    obtain ⟨bx, hbx⟩ : ∃ bx, bg + 1 = bx := ⟨_, rfl⟩
    obtain ⟨bs, hbs⟩ : ∃ bs, bx + 1 = bs := ⟨_, rfl⟩
    obtain ⟨br, hbr⟩ : ∃ br, bs + 1 = br := ⟨_, rfl⟩
    obtain ⟨ba, hba⟩ : ∃ ba, br + 1 = ba := ⟨_, rfl⟩
    obtain ⟨bb, hbb⟩ : ∃ bb, ba + 1 = bb := ⟨_, rfl⟩
    simp only [hbg, hbx, hbs, hbr, hba, hbb]
    obtain ⟨X1, h1, k1, hO, hb1⟩ := Bx.start (x := x) H.out hW1 hbg hbx hbs hbr hba hbb
    have HO := Lib.hid hO
    have H1 := Lib.hid h1
    have K1 := Lib.hid k1
    have HBX := Lib.hid hb1
    have ne1 : bx ≠ br := by omega
    have ne2 : br ≠ bx := by omega
    have ne3 : bx ≠ ba := by omega
    have ne4 : ba ≠ bx := by omega
    have ne5 : bx ≠ bb := by omega
    have ne6 : bb ≠ bx := by omega
    have ne7 : br ≠ ba := by omega
    have ne8 : ba ≠ br := by omega
    have ne9 : br ≠ bb := by omega
    have ne10 : bb ≠ br := by omega
    have ne11 : ba ≠ bb := by omega
    have ne12 : bb ≠ ba := by omega
    have ne13 : bg ≠ ba := by omega
    have ne14 : ba ≠ bg := by omega
    have ne15 : bs ≠ ba := by omega
    have ne16 : ba ≠ bs := by omega
    clear hW1 hbg hbx hbs hbr hba hbb hO h1 k1 hb1
    have zg := HBX.out.g
    have zx := HBX.out.x
    have zs := HBX.out.s
    unfold ic at zx
    have g0 := cl_of zg 0
    have g1 := cl_of zg 1
    have g2 := cl_of zg 2
    have q0 := cl_of zx 0
    have q1 := cl_of zx 1
    have q2 := cl_of zx 2
    have q3 := cl_of zx 3
    have q4 := cl_of zx 4
    have q5 := cl_of zx 5
    have q6 := cl_of zx 6
    have q7 := cl_of zx 7
    have t0 := cl_of zs 0
    have t1 := cl_of zs 1
    have t2 := cl_of zs 2
    have t3 := cl_of zs 3
    clear zg zx zs
    go_wp2_with fail
    refine (HBL.out _).mono ?_
    rintro e w2 ⟨rfl, hB2⟩
    have h2 := H1.out.of hB2
    have bx2 := HBX.out.of hB2
    have hfin : DoP w0 X p jb N tb m rb sb W (.returned (.tuple #[.agg (ic x), .bool true])) (put8 w2 br x) :=
      ⟨x, M, X1, rfl, h2.put8 HO.out.xb.2.2.2.1 (by have := HO.out.o; have := HO.out.w; omega) ⟨_, bx2.r⟩ x, HMW.out.1, HMW.out.2, HO.out.xx, (K1.out.t ((H1.out.keepB hB2).less HO.out.xx)).t (keepPut8 HO.out.lt (by have := HO.out.o; omega) x)⟩
    have HF := Lib.hid hfin
    have BX2 := Lib.hid bx2
    clear g0 g1 g2 q0 q1 q2 q3 q4 q5 q6 q7 t0 t1 t2 t3 hB2 h2 bx2 hfin
    have zg := BX2.out.g
    have zx := BX2.out.x
    unfold ic at zx
    have g0 := cl_of zg 0
    have g1 := cl_of zg 1
    have g2 := cl_of zg 2
    have q0 := cl_of zx 0
    have q1 := cl_of zx 1
    have q2 := cl_of zx 2
    have q3 := cl_of zx 3
    have q4 := cl_of zx 4
    have q5 := cl_of zx 5
    have q6 := cl_of zx 6
    have q7 := cl_of zx 7
    clear zg zx
    have zz := BX2.out.r
    unfold ic Ino.zero at zz
    have r0 := cl_of zz 0
    have r1 := cl_of zz 1
    have r2 := cl_of zz 2
    have r3 := cl_of zz 3
    have r4 := cl_of zz 4
    have r5 := cl_of zz 5
    have r6 := cl_of zz 6
    have r7 := cl_of zz 7
    have rz := fz_of zz
    clear zz
    go_wp2_with fail
    refine bodyPost_ret (v := .tuple #[.agg (ic x), .bool true]) (by simp [results, Tryz.results35, go_sem, ic, ne1, ne2, q0, q1, q2, q3, q4, q5, q6, q7, r0, r1, r2, r3, r4, r5, r6, r7]) rfl ?_
    exact HF.out
  have hfr := fr6 i b j
  have hf5 := fr_bd hg.m (show 5 ≤ 6 by decide)
  obtain ⟨n, hn⟩ : ∃ n : Nat, (n : Int) = fr i b j 5 + v - 1 := ⟨(fr i b j 5 + v - 1).toNat, by omega⟩
  have hnN : n < N := by have := hg.n; omega
  have hblk := fun W => block_yes (n := v) hg.m hv.1 hv.2 W
  rw [← hn] at hblk
  obtain ⟨z, hz⟩ : ∃ z, (if (pget n M).isSome = true ∨ M.length < 37 then (0 : Int) else 4) = z := ⟨_, rfl⟩
  have HBL := Lib.hid hblk
  have HTW := Lib.hid (fun (X2 : Nat → Prop) (Wz : World) (h2 : PL w0 X2 p jb N tb m rb sb M M Wz) => h2.tw n hnN c hcs z hz)
  have HRW := Lib.hid (fun (X2 : Nat → Prop) (M1 : Wl) (Wz : World) (h2 : PL w0 X2 p jb N tb m rb sb M1 M Wz) => h2.rw hM hN n hnN c hcs z hz)
  have hMo := hM.rput n hcs
  generalize rput n c M 37 = M' at *
  have HMO := Lib.hid hMo
  have ez : (z == z) = true := by simp
  clear hblk hsl hto hcs hMo hfr hf5 hn hnN hz
  have H := Lib.hid h
  clear hM hg hN hx h0 h1 ho hl hv h
  unfold gv ic at *
  go_enter Tryz.func35, Tryz.ntmps35
  go_wp2_with fail
  obtain ⟨W1, hW1⟩ : ∃ W1, (((((W.alloc (.cells #[.int .i64 i, .int .i64 b, .int .i64 j] 56)).alloc (.cells #[.int .u8 x.k, .int .u16 x.l, .int .u32 x.s, .int .u16 x.d0, .int .u16 x.d1, .int .u16 x.d2, .int .u16 x.d3, .int .u16 x.n] 61)).alloc (.cells #[.int .i64 op, .int .i64 page, .int .u16 v, lv] 83)).alloc (.cells #[.int .u8 0, .int .u16 0, .int .u32 0, .int .u16 0, .int .u16 0, .int .u16 0, .int .u16 0, .int .u16 0] 61)).alloc (.cells #[.int .u8 0, .int .u16 0, .int .u32 0, .int .u16 0, .int .u16 0, .int .u16 0, .int .u16 0, .int .u16 0] 61)).alloc (.cells #[.int .u8 0, .int .u16 0, .int .u32 0, .int .u16 0, .int .u16 0, .int .u16 0, .int .u16 0, .int .u16 0] 61) = W1 := ⟨_, rfl⟩
  simp only [hW1]
  obtain ⟨bg, hbg⟩ : ∃ bg, W.heap.size = bg := ⟨_, rfl⟩
  obtain ⟨bx, hbx⟩ : ∃ bx, bg + 1 = bx := ⟨_, rfl⟩
  obtain ⟨bs, hbs⟩ : ∃ bs, bx + 1 = bs := ⟨_, rfl⟩
  obtain ⟨br, hbr⟩ : ∃ br, bs + 1 = br := ⟨_, rfl⟩
  obtain ⟨ba, hba⟩ : ∃ ba, br + 1 = ba := ⟨_, rfl⟩
  obtain ⟨bb, hbb⟩ : ∃ bb, ba + 1 = bb := ⟨_, rfl⟩
  simp only [hbg, hbx, hbs, hbr, hba, hbb]
  obtain ⟨X1, h1, k1, hO, hb1⟩ := Bx.start (x := x) H.out hW1 hbg hbx hbs hbr hba hbb
  have HO := Lib.hid hO
  have H1 := Lib.hid h1
  have K1 := Lib.hid k1
  have HBX := Lib.hid hb1
  have ne1 : bx ≠ br := by omega
  have ne2 : br ≠ bx := by omega
  have ne3 : bx ≠ ba := by omega
  have ne4 : ba ≠ bx := by omega
  have ne5 : bx ≠ bb := by omega
  have ne6 : bb ≠ bx := by omega
  have ne7 : br ≠ ba := by omega
  have ne8 : ba ≠ br := by omega
  have ne9 : br ≠ bb := by omega
  have ne10 : bb ≠ br := by omega
  have ne11 : ba ≠ bb := by omega
  have ne12 : bb ≠ ba := by omega
  have ne13 : bg ≠ ba := by omega
  have ne14 : ba ≠ bg := by omega
  have ne15 : bs ≠ ba := by omega
  have ne16 : ba ≠ bs := by omega
  clear hW1 hbg hbx hbs hbr hba hbb hO h1 k1 hb1
  have zg := HBX.out.g
  have zx := HBX.out.x
  have zs := HBX.out.s
  unfold ic at zx
  have g0 := cl_of zg 0
  have g1 := cl_of zg 1
  have g2 := cl_of zg 2
  have q0 := cl_of zx 0
  have q1 := cl_of zx 1
  have q2 := cl_of zx 2
  have q3 := cl_of zx 3
  have q4 := cl_of zx 4
  have q5 := cl_of zx 5
  have q6 := cl_of zx 6
  have q7 := cl_of zx 7
  have t0 := cl_of zs 0
  have t1 := cl_of zs 1
  have t2 := cl_of zs 2
  have t3 := cl_of zs 3
  clear zg zx zs
  go_wp2_with fail
  refine (HBL.out _).mono ?_
  rintro e w2 ⟨rfl, hB2⟩
  have h2 := H1.out.of hB2
  have bx2 := HBX.out.of hB2
  have K2 := Lib.hid (K1.out.t ((H1.out.keepB hB2).less HO.out.xx))
  have H2 := Lib.hid h2
  have BX2 := Lib.hid bx2
  clear g0 g1 g2 q0 q1 q2 q3 q4 q5 q6 q7 t0 t1 t2 t3 hB2 h2 bx2
  have hq := BX2.out.cells
  have H2d := Lib.hid (H2.out.of (Below.refl _ _).drew)
  have BX2d := Lib.hid (BX2.out.of (Below.refl _ _).drew)
  have nes : bs ≠ br := by have := HO.out.o; omega
  go_wp2_with fail
  apply region_mid (R := fun _ W' => ∃ Wz, DoP w0 X p jb N tb m rb sb W (.returned (.tuple #[.agg (ic x), .bool true])) (put8 Wz br x) ∧ Wz.heap[br]? = some (.cells (ic Ino.zero) 61 (0, 0)) ∧ W' = put8 Wz br x)
  case h =>
    refine wp_region_held_drew (S := (fun Wq => (Wq.cell? ⟨bx, 0, none⟩ = some (.int .u8 x.k) ∧ Wq.cell? ⟨bx, 1, none⟩ = some (.int .u16 x.l) ∧ Wq.cell? ⟨bx, 2, none⟩ = some (.int .u32 x.s) ∧ Wq.cell? ⟨bx, 3, none⟩ = some (.int .u16 x.d0) ∧ Wq.cell? ⟨bx, 4, none⟩ = some (.int .u16 x.d1) ∧ Wq.cell? ⟨bx, 5, none⟩ = some (.int .u16 x.d2) ∧ Wq.cell? ⟨bx, 6, none⟩ = some (.int .u16 x.d3) ∧ Wq.cell? ⟨bx, 7, none⟩ = some (.int .u16 x.n) ∧ Wq.cell? ⟨bs, 3, none⟩ = some lv))) (by kernel_rfl) (by exact hq) (fun hHeld => ?_)
    refine wpAnyH_now (i := 0) (v := ?v0) rfl (by kernel_rfl) (by kernel_rfl) (by kernel_rfl) (fun _ _ _ h => h) (by rfl) ?h0 (by assumption) ?_
    case h0 => ((intro w hSw; (try dsimp only at hSw); go_simp); try with_reducible rfl)
    (try simp only [Act.put, List.setIfInBounds_toArray, List.set_cons_succ, List.set_cons_zero])
    refine wpAnyH_now (i := 1) (v := ?v1) rfl (by kernel_rfl) (by kernel_rfl) (by kernel_rfl) (fun _ _ _ h => h) (by rfl) ?h1 (by assumption) ?_
    case h1 => ((intro w hSw; (try dsimp only at hSw); go_simp); try with_reducible rfl)
    (try simp only [Act.put, List.setIfInBounds_toArray, List.set_cons_succ, List.set_cons_zero])
    refine wpAnyH_now (i := 2) (v := ?v2) rfl (by kernel_rfl) (by kernel_rfl) (by kernel_rfl) (fun _ _ _ h => h) (by rfl) ?h2 (by assumption) ?_
    case h2 => ((intro w hSw; (try dsimp only at hSw); go_simp); try with_reducible rfl)
    (try simp only [Act.put, List.setIfInBounds_toArray, List.set_cons_succ, List.set_cons_zero])
    refine wpAnyH_now (i := 3) (v := ?v3) rfl (by kernel_rfl) (by kernel_rfl) (by kernel_rfl) (fun _ _ _ h => h) (by rfl) ?h3 (by assumption) ?_
    case h3 => ((intro w hSw; (try dsimp only at hSw); go_simp); try with_reducible rfl)
    (try simp only [Act.put, List.setIfInBounds_toArray, List.set_cons_succ, List.set_cons_zero])
    refine wpAnyH_now (i := 4) (v := ?v4) rfl (by kernel_rfl) (by kernel_rfl) (by kernel_rfl) (fun _ _ _ h => h) (by rfl) ?h4 (by assumption) ?_
    case h4 => ((intro w hSw; (try dsimp only at hSw); go_simp); try with_reducible rfl)
    (try simp only [Act.put, List.setIfInBounds_toArray, List.set_cons_succ, List.set_cons_zero])
    refine wpAnyH_now (i := 7) (v := ?v5) rfl (by kernel_rfl) (by kernel_rfl) (by kernel_rfl) (fun _ _ _ h => h) (by rfl) ?h5 (by assumption) ?_
    case h5 => ((intro w hSw; (try dsimp only at hSw); go_simp); try with_reducible rfl)
    (try simp only [Act.put, List.setIfInBounds_toArray, List.set_cons_succ, List.set_cons_zero])
    refine wpAnyH_now (i := 8) (v := ?v6) rfl (by kernel_rfl) (by kernel_rfl) (by kernel_rfl) (fun _ _ _ h => h) (by rfl) ?h6 (by assumption) ?_
    case h6 => ((intro w hSw; (try dsimp only at hSw); go_simp); try with_reducible rfl)
    (try simp only [Act.put, List.setIfInBounds_toArray, List.set_cons_succ, List.set_cons_zero])
    refine wpAnyH_now (i := 9) (v := ?v7) rfl (by kernel_rfl) (by kernel_rfl) (by kernel_rfl) (fun _ _ _ h => h) (by rfl) ?h7 (by assumption) ?_
    case h7 => ((intro w hSw; (try dsimp only at hSw); go_simp); try with_reducible rfl)
    (try simp only [Act.put, List.setIfInBounds_toArray, List.set_cons_succ, List.set_cons_zero])
    refine wpAnyH_now (i := 10) (v := ?v8) rfl (by kernel_rfl) (by kernel_rfl) (by kernel_rfl) (fun _ _ _ h => h) (by rfl) ?h8 (by assumption) ?_
    case h8 => ((intro w hSw; (try dsimp only at hSw); go_simp); try with_reducible rfl)
    (try simp only [Act.put, List.setIfInBounds_toArray, List.set_cons_succ, List.set_cons_zero])
    refine wpAnyH_only (i := 5) (by kernel_rfl) rfl (by rfl) (fun K hK => ?_)
    go_simp
    refine (HTO.out _ H2d.out.below).mono ?_
    rintro e w3 ⟨rfl, hB3⟩
    have H3 := Lib.hid (H2d.out.of hB3)
    have BX3 := Lib.hid (BX2d.out.of hB3)
    have K3 := Lib.hid (K2.out.t ((H2.out.keepB (bt (Below.refl _ _).drew hB3)).less HO.out.xx))
    clear hB3
    refine hK.out _ _ (by exact BX3.out.cells) (fun hHeld => ?_)
    clear hK K
    (try simp only [Act.put, List.setIfInBounds_toArray, List.set_cons_succ, List.set_cons_zero])
    refine wpAnyH_only (i := 6) (by kernel_rfl) rfl (by rfl) (fun K hK => ?_)
    go_simp
    refine (HTW.out _ _ H3.out).mono ?_
    rintro e w4 ⟨rfl, h4, k4⟩
    have H4 := Lib.hid h4
    have BX4 := Lib.hid (BX3.out.step H3.out k4 HO.out.xb)
    have K4 := Lib.hid (K3.out.t (k4.less HO.out.xx))
    clear h4 k4
    refine hK.out _ _ (by exact BX4.out.cells) (fun hHeld => ?_)
    clear hK K
    (try simp only [Act.put, List.setIfInBounds_toArray, List.set_cons_succ, List.set_cons_zero])
    refine wpAnyH_only (i := 11) (by kernel_rfl) rfl (by rfl) (fun K hK => ?_)
    go_simp
    refine (HTO.out _ H4.out.below).mono ?_
    rintro e w5 ⟨rfl, hB5⟩
    have H5 := Lib.hid (H4.out.of hB5)
    have BX5 := Lib.hid (BX4.out.of hB5)
    have K5 := Lib.hid (K4.out.t ((H4.out.keepB hB5).less HO.out.xx))
    clear hB5
    refine hK.out _ _ (by exact BX5.out.cells) (fun hHeld => ?_)
    clear hK K
    (try simp only [Act.put, List.setIfInBounds_toArray, List.set_cons_succ, List.set_cons_zero])
    refine wpAnyH_only (i := 12) (by kernel_rfl) rfl (by rfl) (fun K hK => ?_)
    go_simp
    refine (HRW.out _ _ _ H5.out).mono ?_
    rintro e w6 ⟨rfl, h6, k6⟩
    have H6 := Lib.hid h6
    have BX6 := Lib.hid (BX5.out.step H5.out k6 HO.out.xb)
    have K6 := Lib.hid (K5.out.t (k6.less HO.out.xx))
    clear h6 k6
    refine hK.out _ _ (by exact BX6.out.cells) (fun hHeld => ?_)
    clear hK K
    (try simp only [Act.put, List.setIfInBounds_toArray, List.set_cons_succ, List.set_cons_zero])
    have hr5 := BX6.out.r
    unfold ic Ino.zero at hr5
    have r0 := cl_of hr5 0
    have r1 := cl_of hr5 1
    have r2 := cl_of hr5 2
    have r3 := cl_of hr5 3
    have r4 := cl_of hr5 4
    have r5 := cl_of hr5 5
    have r6 := cl_of hr5 6
    have r7 := cl_of hr5 7
    have rz := fz_of hr5
    clear hr5
    refine wpAnyH_now (i := 13) (v := ?v9) rfl (by kernel_rfl) (by kernel_rfl) (by kernel_rfl) (fun _ _ _ h => h) (by rfl) ?h9 (by assumption) ?_
    case h9 => ((intro w hSw; (try dsimp only at hSw); go_simp); try with_reducible rfl)
    (try simp only [Act.put, List.setIfInBounds_toArray, List.set_cons_succ, List.set_cons_zero])
    refine wpAnyH_only (i := 14) (by kernel_rfl) rfl (by rfl) (fun K hK => ?_)
    go_simp
    refine hK.out _ _ (by exact bxcells_put BX6.out.cells ne1 nes x) (fun hHeld => ?_)
    clear hK K
    (try simp only [Act.put, List.setIfInBounds_toArray, List.set_cons_succ, List.set_cons_zero])
    refine wpAnyH_now (i := 15) (v := ?v10) rfl (by kernel_rfl) (by kernel_rfl) (by kernel_rfl) (fun _ _ _ h => h) (by rfl) ?h10 (by assumption) ?_
    case h10 => ((intro w hSw; (try dsimp only at hSw); go_simp); try with_reducible rfl)
    (try simp only [Act.put, List.setIfInBounds_toArray, List.set_cons_succ, List.set_cons_zero])
    refine wpAnyH_done (by kernel_rfl) ?_ _
    refine NoPanic.normal ?_
    obtain ⟨nv, -⟩ : ∃ nv : Nat, nv = 0 := ⟨0, rfl⟩
    exact ⟨rfl, nv, rfl, w6, ⟨x, M', _, rfl, H6.out.put8 (.inl HO.out.xb.2.2.2.1) (by have := HO.out.o; have := HO.out.w; omega) ⟨_, BX6.out.r⟩ x, HMO.out, HMW.out.2, fun k h => .inl (HO.out.xx k h), K6.out.t (keepPut8 HO.out.lt (by have := HO.out.o; omega) x)⟩, BX6.out.r, rfl⟩
  case hc =>
    rintro nb w6 ⟨Wz, hD, hr, rfl⟩
    have HFF := Lib.hid hD
    have hr6 := put8_here (x := Ino.zero) hr x
    unfold ic at hr6
    have r0 := cl_of hr6 0
    have r1 := cl_of hr6 1
    have r2 := cl_of hr6 2
    have r3 := cl_of hr6 3
    have r4 := cl_of hr6 4
    have r5 := cl_of hr6 5
    have r6 := cl_of hr6 6
    have r7 := cl_of hr6 7
    clear hD hr6 hr hq
    go_wp2_with fail
    refine bodyPost_ret (v := .tuple #[.agg (ic x), .bool true]) (by simp [results, Tryz.results35, go_sem, ic, ne1, ne2, r0, r1, r2, r3, r4, r5, r6, r7]) rfl ?_
    exact HFF.out
theorem does_any (h : PL w0 X p jb N tb m rb sb M M W) (hM : Mo M) (hg : GeoN i b j N) (hN : N ≤ 1000000) (hx : x.Wf) {st : St9} (hb : (Lit.int .u16 st.b).wf = true) (hl : SlI .u16 w0 st.lv st.l) :
    Calls Tryz.prog 35 #[.pointer (some ⟨tb, 0, none⟩), .pointer (some ⟨rb, 0, none⟩), gv i b j, .agg (ic x), .agg #[.int .i64 st.op, .int .i64 st.page, .int .u16 st.b, st.lv]] W (DoP w0 X p jb N tb m rb sb W) := by
  have h0 := (wfu16 hb).1
  have h1 := (wfu16 hb).2
  by_cases e0 : st.op = 0
  · rw [e0]; exact does_get h hM hg hN hx h0 h1
  by_cases e3 : st.op = 3
  · rw [e3]; exact does_all h hM hg hN hx h0 h1
  by_cases e1 : st.op = 1
  · rw [e1]; exact does_set h hM hg hN hx h0 h1
  by_cases e2 : st.op = 2
  · rw [e2]; exact does_begin h hM hg hN hx h0 h1
  by_cases e4 : st.op = 4
  · rw [e4]; exact does_cut h hM hg hN hx h0 h1
  exact does_write h hM hg hN hx h0 h1 ⟨e0, e3, e1, e2, e4⟩ hl
end
end Go.Proofs.YtjjphcnoegaimaaGreat

namespace Go.Proofs.YtjjphcnoegaimaaGreat
open Go.RowKit Go.ChangeShapes Go.WideShapes Go.Joins
set_option maxRecDepth 100000

/-- A geometry that comes in. -/
structure GeoV (v : Value) (g : Int × Int × Int) : Prop where
  val : v = .agg #[.int .i64 g.1, .int .i64 g.2.1, .int .i64 g.2.2]
  w0 : (Lit.int .i64 g.1).wf = true
  w1 : (Lit.int .i64 g.2.1).wf = true
  w2 : (Lit.int .i64 g.2.2).wf = true
theorem Tryz.in9cellsGeo : Tryz.prog.cellsOf 56 = 3 := by kernel_rfl
theorem open_geo {H : Type} {enc : TypeId × Value → H} {w : World} {base : Nat} {held : Bool} {spare : Nat → Bool} {v : Value} {d : DataW H} {ps : List MemPlace}
    {r : Reach} {b0 : Nat} (hval : Value.okWide Tryz.prog w r b0 56 v) (hd : DataW.Trod enc Tryz.prog w base spare held 56 v d ps) : ∃ g, GeoV v g := by
  obtain ⟨c0, c1, c2, y0, y1, y2, m, rfl, -, -, h0, h1, h2⟩ := open_agg3 Tryz.underlying56 (by kernel_rfl) Tryz.in9cellsGeo hval hd
  obtain ⟨a, e0, -, wa⟩ := DataW.trod_int Tryz.underlying3 h0
  obtain ⟨b, e1, -, wb⟩ := DataW.trod_int Tryz.underlying3 h1
  obtain ⟨c, e2, -, wc⟩ := DataW.trod_int Tryz.underlying3 h2
  simp at e0 e1 e2
  subst e0 e1 e2
  exact ⟨(a, b, c), rfl, wa, wb, wc⟩

/-- An inode that comes in. -/
structure InoV (v : Value) (x : Ino) : Prop where
  val : v = .agg (ic x)
  wf : x.Wf
theorem Tryz.in9cellsIno : Tryz.prog.cellsOf 61 = 8 := by kernel_rfl
theorem Tryz.in9cells8 : Tryz.prog.cellsOf 5 = 1 := by kernel_rfl
theorem Tryz.in9cells16 : Tryz.prog.cellsOf 57 = 1 := by kernel_rfl
theorem Tryz.in9cells32 : Tryz.prog.cellsOf 58 = 1 := by kernel_rfl
theorem Tryz.in9cells4 : Tryz.prog.cellsOf 59 = 4 := by kernel_rfl
theorem open_ino {H : Type} {enc : TypeId × Value → H} {w : World} {base : Nat} {held : Bool} {spare : Nat → Bool} {v : Value} {d : DataW H} {ps : List MemPlace}
    {r : Reach} {b0 : Nat} (hval : Value.okWide Tryz.prog w r b0 61 v) (hd : DataW.Trod enc Tryz.prog w base spare held 61 v d ps) : ∃ x, InoV v x := by
  obtain ⟨cs, rfl, hsz⟩ := okWide_struct Tryz.underlying61 hval
  obtain ⟨l⟩ := cs
  match l, hsz.trans Tryz.in9cellsIno with
  | [c0, c1, c2, c3, c4, c5, c6, c7], _ =>
    obtain ⟨fuel, hf⟩ := hd
    obtain ⟨xs, n, _, hx, _, hlen, hg⟩ := DataW.trod_struct Tryz.underlying61 hf
    match xs, hlen with
    | [y0, y1, y2, y3, y4], _ =>
      have g0 := hg 0 _ rfl
      have g1 := hg 1 _ rfl
      have g2 := hg 2 _ rfl
      have g3 := hg 3 _ rfl
      have g4 := hg 4 _ rfl
      simp only [Value.cells, List.getElem?_cons_zero, List.getElem?_cons_succ] at g0 g1 g2 g3 g4
      obtain ⟨a, e0, -, wa⟩ := DataW.trod_int Tryz.underlying5 g0
      obtain ⟨b, e1, -, wb⟩ := DataW.trod_int Tryz.underlying57 g1
      obtain ⟨c, e2, -, wc⟩ := DataW.trod_int Tryz.underlying58 g2
      obtain ⟨e, e4, -, we⟩ := DataW.trod_int Tryz.underlying57 g4
      obtain ⟨ys, m, _, _, _, hyl, hy⟩ := DataW.trod_array Tryz.underlying59 g3
      match ys, hyl with
      | [z0, z1, z2, z3], _ =>
        have k0 := hy 0 (by decide)
        have k1 := hy 1 (by decide)
        have k2 := hy 2 (by decide)
        have k3 := hy 3 (by decide)
        simp only [Tryz.in9cells16, Nat.mul_one, List.drop_zero, List.getElem?_cons_zero, List.getElem?_cons_succ] at k0 k1 k2 k3
        obtain ⟨d0, u0, -, w0⟩ := DataW.trod_int Tryz.underlying57 k0
        obtain ⟨d1, u1, -, w1⟩ := DataW.trod_int Tryz.underlying57 k1
        obtain ⟨d2, u2, -, w2⟩ := DataW.trod_int Tryz.underlying57 k2
        obtain ⟨d3, u3, -, w3⟩ := DataW.trod_int Tryz.underlying57 k3
        simp [Tryz.in9cells8, Tryz.in9cells16, Tryz.in9cells32, Tryz.in9cells4] at e0 e1 e2 e4 u0 u1 u2 u3
        subst e0 e1 e2 e4 u0 u1 u2 u3
        exact ⟨⟨a, b, c, d0, d1, d2, d3, e⟩, rfl, wfu8 wa, wfu16 wb, wfu32 wc, wfu16 w0, wfu16 w1, wfu16 w2, wfu16 w3, wfu16 we⟩

theorem Sl9.of {w W : World} {v : Value} {ls : List St9} (h : Sl9 w v ls) (hB : Below w.heap.size w W) : Sl9 W v ls := by
  obtain ⟨⟨ao, cap, e, hc⟩, hw⟩ := h
  refine ⟨⟨ao, cap, e, fun h0 => ?_⟩, fun n hn => ?_⟩
  · obtain ⟨b, off, e2, hb, hcc⟩ := hc h0
    refine ⟨b, off, e2, Nat.lt_of_lt_of_le hb hB.size, fun i hi => ?_⟩
    obtain ⟨c0, c1, c2, c3⟩ := hcc i hi
    exact ⟨(hB.cell (p := ⟨b, off + i * 4, none⟩) hb).trans c0, (hB.cell (p := ⟨b, off + i * 4 + 1, none⟩) hb).trans c1, (hB.cell (p := ⟨b, off + i * 4 + 2, none⟩) hb).trans c2, (hB.cell (p := ⟨b, off + i * 4 + 3, none⟩) hb).trans c3⟩
  · obtain ⟨a, b, c, ⟨⟨ao, cap, e, hc⟩, hz⟩⟩ := hw n hn
    refine ⟨a, b, c, ⟨ao, cap, e, fun h0 => ?_⟩, hz⟩
    obtain ⟨b, off, e2, hb, hcc⟩ := hc h0
    exact ⟨b, off, e2, Nat.lt_of_lt_of_le hb hB.size, fun j hj => (hB.cell (p := ⟨b, off + j, none⟩) hb).trans (hcc j hj)⟩
end Go.Proofs.YtjjphcnoegaimaaGreat

namespace Go.Proofs.YtjjphcnoegaimaaGreat
open Go.RowKit Go.Shelf Go.Maps
set_option maxRecDepth 20000
set_option linter.unusedVariables false
set_option linter.unusedSimpArgs false

/-- A region's ways joined: it makes a block and gives some datum, whichever. -/
theorem region_midY {P : Program} {id : Nat} {ops : Array Oper} {b : Bool} {Q : Exit → Act → World → Prop} {a : Act} {w : World} {Y : Type} (F : Nat → Y → Act) (R : Nat → Y → World → Prop)
    (h : (Code.region id ops b).wp P (NoPanic fun e a' w' => e = .normal ∧ ∃ nb y, a' = F nb y ∧ R nb y w') a w) (hc : ∀ nb y w', R nb y w' → Q .normal (F nb y) w') : (Code.region id ops b).wp P Q a w :=
  Code.wp_mono (fun e a' w' h => by
    cases e with
    | normal =>
      obtain ⟨-, nb, y, rfl, hr⟩ := h
      exact hc nb y w' hr
    | panic c => exact h.elim
    | ret => exact absurd h.1 (by simp)
    | exit id => exact absurd h.1 (by simp)
    | goto t => exact absurd h.1 (by simp)
    | outgrown => exact absurd h.1 (by simp)) h
/-- Both transactions, the geometry's box and the inode's. -/
structure Lp (w : World) (X : Nat → Prop) (p jb N tb m rb sb : Nat) (M : Wl) (x : Ino) (G : Array Value) (bg bx : Nat) (W : World) : Prop where
  pl : PL w X p jb N tb m rb sb M M W
  g : W.heap[bg]? = some (.cells G 56 (0, 0))
  x : W.heap[bx]? = some (.cells (ic x) 61 (0, 0))
  xg : X bg
  xx : X bx
section
variable {w W W1 W' : World} {X X1 : Nat → Prop} {p jb N tb m rb sb bg bx nb : Nat} {M M' : Wl} {x y z : Ino} {G : Array Value}
theorem Lp.of (h : Lp w X p jb N tb m rb sb M x G bg bx W) (hB : Below W.heap.size W W') : Lp w X p jb N tb m rb sb M x G bg bx W' := ⟨h.pl.of hB, bblk hB h.g, bblk hB h.x, h.xg, h.xx⟩
theorem Lp.take (h : Lp w X p jb N tb m rb sb M x G bg bx W) (hB : Below W.heap.size W W') : Lp w (fun k => X k ∨ W.heap.size ≤ k ∧ k < W'.heap.size) p jb N tb m rb sb M x G bg bx W' := ⟨h.pl.take hB, bblk hB h.g, bblk hB h.x, .inl h.xg, .inl h.xx⟩
theorem Lp.step (h : Lp w X p jb N tb m rb sb M x G bg bx W) (hp : PL w X1 p jb N tb m rb sb M' M' W1) (hx : ∀ k, X k → X1 k) (hk : KeepP X m rb W W1) : Lp w X1 p jb N tb m rb sb M' x G bg bx W1 :=
  ⟨hp, h.pl.box hk h.xg h.g (by decide), h.pl.box hk h.xx h.x (by decide), hx _ h.xg, hx _ h.xx⟩
theorem Lp.put (h : Lp w X p jb N tb m rb sb M x G bg bx W) (hX : X nb) (hw : w.heap.size ≤ nb) (hn : W.heap[nb]? = some (.cells (ic z) 61 (0, 0))) (h1 : nb ≠ bg) (h2 : nb ≠ bx) (y : Ino) : Lp w X p jb N tb m rb sb M x G bg bx (put8 W nb y) :=
  ⟨h.pl.put8 hX hw ⟨_, hn⟩ y, (put8_other W (fun e => h1 e.symm) y).trans h.g, (put8_other W (fun e => h2 e.symm) y).trans h.x, h.xg, h.xx⟩
theorem Lp.turn (h : Lp w X p jb N tb m rb sb M x G bg bx W) (hw : w.heap.size ≤ bx) (h1 : bg ≠ bx) (y : Ino) : Lp w X p jb N tb m rb sb M y G bg bx (put8 W bx y) :=
  ⟨h.pl.put8 h.xx hw ⟨_, h.x⟩ y, (put8_other W h1 y).trans h.g, put8_here h.x y, h.xg, h.xx⟩
/-- A step of both, its answer in a box of its own. -/
def StR (w : World) (p jb N tb m rb sb : Nat) (x : Ino) (G : Array Value) (bg bx nb : Nat) (y : Ino) (W' : World) : Prop :=
  ∃ (M' : Wl) (X' : Nat → Prop), Lp w X' p jb N tb m rb sb M' x G bg bx W' ∧ Mo M' ∧ y.Wf ∧ W'.heap[nb]? = some (.cells (ic y) 61 (0, 0)) ∧ nb ≠ bg ∧ nb ≠ bx
/-- The step first, then its box. -/
theorem stA {W5 : World} (h : Lp w X p jb N tb m rb sb M x G bg bx W) (hp : PL w X1 p jb N tb m rb sb M' M' W5) (hM : Mo M') (hy : y.Wf) (hx : ∀ k, X k → X1 k) (hk : KeepP X m rb W W5) (hnb : W5.heap.size = nb) : StR w p jb N tb m rb sb x G bg bx nb y (put8 (W5.alloc (.cells (ic Ino.zero) 61)) nb y) := by
  have h5 := h.step hp hx hk
  have hn : (W5.alloc (.cells (ic Ino.zero) 61)).heap[nb]? = some (.cells (ic Ino.zero) 61 (0, 0)) := hp_new _ _ hnb.symm
  have hg := blk_lt h5.g
  have hxl := blk_lt h5.x
  exact ⟨M', _, (h5.take (bnew _ _)).put (.inr ⟨by omega, by simp; omega⟩) (Nat.le_trans h5.pl.below.size (by omega)) hn (by omega) (by omega) y, hM, hy, put8_here hn y, by omega, by omega⟩
/-- The box first, then the step. -/
theorem stB {W5 WB : World} (h : Lp w X p jb N tb m rb sb M x G bg bx W) (hB : Below W.heap.size W WB) (hn : WB.heap[nb]? = some (.cells (ic Ino.zero) 61 (0, 0))) (hnb : W.heap.size = nb) (hp : PL w X1 p jb N tb m rb sb M' M' W5) (hM : Mo M') (hy : y.Wf) (hx : ∀ k, (X k ∨ W.heap.size ≤ k ∧ k < WB.heap.size) → X1 k) (hk : KeepP (fun k => X k ∨ W.heap.size ≤ k ∧ k < WB.heap.size) m rb WB W5) :
    W5.heap[nb]? = some (.cells (ic Ino.zero) 61 (0, 0)) ∧ StR w p jb N tb m rb sb x G bg bx nb y (put8 W5 nb y) := by
  have hs : nb < WB.heap.size := blk_lt hn
  have hT := h.take hB
  have h5 := hT.step hp hx hk
  have hX : X nb ∨ W.heap.size ≤ nb ∧ nb < WB.heap.size := .inr ⟨by omega, hs⟩
  have hn5 := hT.pl.box hk hX hn (by decide)
  have hg := blk_lt h.g
  have hxl := blk_lt h.x
  exact ⟨hn5, M', _, h5.put (hx _ hX) (Nat.le_trans h.pl.below.size (by omega)) hn5 (by omega) (by omega) y, hM, hy, put8_here hn5 y, by omega, by omega⟩
end
end Go.Proofs.YtjjphcnoegaimaaGreat
