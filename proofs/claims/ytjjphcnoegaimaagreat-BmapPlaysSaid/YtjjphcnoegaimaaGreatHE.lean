/- lunettelaw05.Small; lunettelaw09.Made, two, fresh; lunetteref07.Same; Set of any page; what no transaction answers. Steps of lunettelaw09 that come in; long. Package bmap: All, Set of any page; lunetteref07.Same; lunettelaw09.fresh. -/
import Derived.Test.YtjjphcnoegaimaaGreatHD
import Derived.Test.YtjjphcnoegaimaaGreatGP
import Derived.Test.YtjjphcnoegaimaaGreatSteps08
namespace Go.Proofs.YtjjphcnoegaimaaGreat
open Go.RowKit Go.Shelf Go.Maps
set_option linter.unusedSimpArgs false
set_option maxRecDepth 20000
set_option linter.unusedVariables false

theorem most_40 : IsMost 40 37 := by unfold IsMost places; decide
theorem mays_small : Mays 8 16 40 := by constructor <;> decide
theorem fr_small (k : Nat) : fr 8 16 40 k = ([1, 40, 1, 1, 4, 16].take k).sum := rfl
theorem geoN_small : GeoN 8 16 40 63 := ⟨mays_small, by rfl⟩
section
variable {w0 w W W' : World} {X : Nat → Prop} {p jb N tb m bsn : Nat} {M : Wl} {x : Ino} {i b j : Int}
set_option maxHeartbeats 400000 in
theorem small_any (W : World) : Calls Tryz.prog 31 #[] W fun e W' => e = .returned (gv 8 16 40) ∧ Below W.heap.size W W' := by
  have b0 : (W.alloc (.cells #[.int .i64 0, .int .i64 0, .int .i64 0] 56)).heap[W.heap.size]? = some (.cells #[.int .i64 0, .int .i64 0, .int .i64 0] 56 (0, 0)) := hp_new _ _ rfl
  have s0 := cl_of b0 0
  have s1 := cl_of b0 1
  have s2 := cl_of b0 2
  have z0 := fz_of b0
  go_enter Tryz.func31, Tryz.ntmps31
  go_wp2_with fail
  refine bodyPost_ret (v := gv 8 16 40) (by simp [results, Tryz.results31, go_sem, gv]) rfl ⟨rfl, ?_⟩
  repeat (refine Below.setCell ?_ (by simp) _)
  exact bnew _ _
/-- The chapter's inode. -/
def twoI : Ino := ⟨1, 0, 128, 7, 9, 0, 0, 0⟩
set_option maxHeartbeats 400000 in
theorem two_any (W : World) : Calls Tryz.prog 54 #[] W fun e W' => e = .returned (.agg (ic twoI)) ∧ Below W.heap.size W W' := by
  have b0 : (W.alloc (.cells (ic Ino.zero) 61)).heap[W.heap.size]? = some (.cells (ic Ino.zero) 61 (0, 0)) := hp_new _ _ rfl
  have s0 := cl_of b0 0
  have s1 := cl_of b0 1
  have s2 := cl_of b0 2
  have s3 := cl_of b0 3
  have s4 := cl_of b0 4
  have s5 := cl_of b0 5
  have s6 := cl_of b0 6
  have s7 := cl_of b0 7
  have z0 := fz_of b0
  unfold ic Ino.zero at *
  unfold twoI
  go_enter Tryz.func54, Tryz.ntmps54
  go_wp2_with fail
  refine bodyPost_ret (v := .agg (ic twoI)) (by simp [results, Tryz.results54, go_sem, ic, twoI]) rfl ⟨rfl, ?_⟩
  repeat (refine Below.setCell ?_ (by simp) _)
  exact bnew _ _
/-- A transaction on a new device of a geometry. -/
def Mk9 (w0 W : World) (N : Nat) (tb p : Nat) (W' : World) : Prop := ∃ (X : Nat → Prop) (jb m : Nat), TJ w0 X p jb N 0 1 40 0 0 (newS N) tb m [] false W' ∧ (∀ k, w0.heap.size ≤ k → k < W.heap.size → X k) ∧ W.heap.size ≤ jb ∧ W.heap.size ≤ tb ∧ W.heap.size ≤ m ∧ Below W.heap.size W W'
set_option maxHeartbeats 2000000 in
theorem made9_any (hm : Mays i b 40) (hN : (N : Int) = fr i b 40 6) (hB : Below w0.heap.size w0 W) : Calls Tryz.prog 30 #[gv i b 40] W fun e W' => ∃ tb p, e = .returned (.tuple #[.pointer (some ⟨tb, 0, none⟩), .pointer (some ⟨p, 0, none⟩)]) ∧ Mk9 w0 W N tb p W' := by
  have hfr1 : fr i b 40 1 = 1 := by simp [fr, szl]
  have hsz1 : sz i b 40 1 = 40 := rfl
  have hN41 : 48 ≤ N ∧ N ≤ 2000 := by
    have h6 := (fr_bd hm (k := 6) (by decide)).2
    have h7 : fr i b 40 6 = 1 + 40 + (i + 512) / 512 + (b + 512) / 512 + (i + 1) / 2 + b := by simp [fr, szl]; omega
    have := hm.b0
    have := hm.i0
    omega
  have hsec := fun W => sectors_yes hm W
  have hprt := fun W => part_yes hm 1 (by decide) W
  rw [← hN] at hsec
  rw [hfr1, hsz1] at hprt
  unfold gv
  have HS := Lib.hid hsec
  have HP := Lib.hid hprt
  have HB := Lib.hid hB
  have HN := Lib.hid hN41
  clear hsec hprt hB hN hfr1 hsz1 hN41 hm
  go_enter Tryz.func30, Tryz.ntmps30
  go_wp2_with fail
  refine (HS.out _).mono ?_
  rintro e w1 ⟨rfl, hB1⟩
  have b1 := bblk hB1 (hp_new W (.cells #[.int .i64 i, .int .i64 b, .int .i64 40] 56) rfl)
  have HB1 := Lib.hid (bt (bnew W (.cells #[.int .i64 i, .int .i64 b, .int .i64 40] 56)) hB1)
  have g0 := cl_of b1 0
  have g1 := cl_of b1 1
  have g2 := cl_of b1 2
  clear hB1 b1
  go_wp2_with fail
  refine (HP.out _).mono ?_
  rintro e w2 ⟨rfl, hB2⟩
  have HB2 := Lib.hid (bt HB1.out hB2)
  clear hB2 g0 g1 g2
  have hb3 := bnew w2 (.cells #[.int .i64 1, .int .i64 40] 134)
  have hB3 : Below w0.heap.size w0 (w2.alloc (.cells #[.int .i64 1, .int .i64 40] 134)) := bt HB.out (bt HB2.out hb3)
  have HB3 := Lib.hid (bt HB2.out hb3)
  have c3 : (w2.alloc (.cells #[.int .i64 1, .int .i64 40] 134)).heap[w2.heap.size]? = some (.cells #[.int .i64 1, .int .i64 40] 134 (0, 0)) := hp_new _ _ rfl
  have hnew := o_new N (by have := HN.out; omega) (by have := HN.out; omega) w0 _ hB3
  have HNW := Lib.hid hnew
  clear hb3 hB3 hnew
  go_wp2_with fail
  refine HNW.out.mono ?_
  rintro e w4 ⟨rfl, h4, hB4⟩
  have c4 := bblk hB4 c3
  have g0 := cl_of c4 0
  have g1 := cl_of c4 1
  have hx4 : ∀ k, w0.heap.size ≤ k ∧ k < W.heap.size → w0.heap.size ≤ k ∧ k < (w2.alloc (.cells #[.int .i64 1, .int .i64 40] 134)).heap.size := fun k hk => ⟨hk.1, Nat.lt_of_lt_of_le hk.2 HB3.out.size⟩
  have hop := open_JL (fr := 1) (n := 40) h4 (newS_ok N) (newS_JL N 1) (by decide) (by decide) (by have := HN.out; omega) (by have := HN.out; omega) most_40
  have HOP := Lib.hid hop
  have HB4 := Lib.hid (bt HB3.out hB4)
  have HX4 := Lib.hid hx4
  generalize (w2.alloc (.cells #[.int .i64 1, .int .i64 40] 134)).heap.size = n3 at *
  clear hop h4 hB4 c3 c4 hx4 HNW
  go_wp2_with fail
  refine HOP.out.mono ?_
  rintro e w5 ⟨rfl, h5, k5⟩
  have HJ5 := Lib.hid h5
  have HK5 := Lib.hid k5
  clear h5 k5 g0 g1
  go_wp2_with fail
  refine (HJ5.out.begin).mono ?_
  rintro e w6 ⟨rfl, h6, hB6⟩
  have hp : Mk9 w0 W N (w5.heap.size + 1) (n3 + 1) w6 := by
    have hs := blk_lt HJ5.out.obj
    have hs4 := HB4.out.size
    have hs5 := HJ5.out.dev.below
    refine ⟨_, _, _, h6, fun k h1 h2 => .inl (.inl (HX4.out k ⟨h1, h2⟩)), hs4, by omega, by omega, ?_⟩
    refine below_mid HB.out h6.j.dev.below (by have := hB6.size; omega) (fun k hk => ?_)
    refine (hB6.block k (by omega)).trans (Eq.trans ?_ (HB4.out.block k hk))
    by_cases e : k < w0.heap.size
    · exact HK5.out k (.inl e)
    · exact HK5.out k (.inr (HX4.out k ⟨by omega, hk⟩))
  have HP6 := Lib.hid hp
  clear h6 hB6 hp
  go_wp2_with fail
  go_ret2
  exact ⟨_, _, rfl, HP6.out⟩
end
end Go.Proofs.YtjjphcnoegaimaaGreat

namespace Go.Proofs.YtjjphcnoegaimaaGreat
open Go.RowKit Go.ChangeShapes Go.WideShapes Go.Deep
set_option linter.unusedSimpArgs false
set_option maxRecDepth 100000

theorem open_nums_core {H : Type} {P : Program} {enc : TypeId × Value → H} {w : World} {base : Nat} {held : Bool} {spare : Nat → Bool} {t e : TypeId} {k : IntKind} {v : Value} {fuel : Nat} {y : DataW H × List MemPlace}
    (ht : P.underlying t = some (.slice e)) (he : P.underlying e = some (.int k)) (hc : P.cellsOf e = 1) (hf : DataW.trod enc P w base spare held fuel t [v] = some y) : ∃ zs, SlI k w v zs := by
  rcases open_ints ht he hc hf with ⟨h1, h2⟩ | ⟨a, len, cap, zs, hv, hb, hl, hm, hlen, hx, hcell, hwf⟩
  · have : v = Value.slice none 0 0 := by simpa using h1
    subst this
    exact ⟨[], ⟨⟨_, _, rfl, fun h => absurd h (by simp)⟩, fun n hn => absurd hn (by simp)⟩⟩
  · have : v = Value.slice (some a) len cap := by simpa using hv
    subst this
    have hln : len ≤ zs.length := by split at hlen <;> omega
    refine ⟨zs.take len, ⟨⟨_, cap, by rw [List.length_take, Nat.min_eq_left hln], fun h => ?_⟩, fun x hn => hwf x (List.mem_of_mem_take hn)⟩⟩
    rw [List.length_take, Nat.min_eq_left hln] at h ⊢
    obtain ⟨b, off, rfl, hcs⟩ := ints_at hcell (by omega)
    have h0 := hcs 0 (by omega)
    refine ⟨b, off, rfl, lt_of_cell h0, fun j hj => ?_⟩
    rw [hcs j (by omega), List.getD_eq_getElem?_getD, List.getD_eq_getElem?_getD, List.getElem?_take_of_lt hj]

/-- A step. -/
structure St9 where
  op : Int
  page : Int
  b : Int
  lv : Value
  l : List Int
def st90 : St9 := ⟨0, 0, 0, .slice none 0 0, []⟩
/-- A step's cells. -/
def st9c (W : World) (b o : Nat) (x : St9) : Prop := W.cell? ⟨b, o, none⟩ = some (.int .i64 x.op) ∧ W.cell? ⟨b, o + 1, none⟩ = some (.int .i64 x.page) ∧ W.cell? ⟨b, o + 2, none⟩ = some (.int .u16 x.b) ∧ W.cell? ⟨b, o + 3, none⟩ = some x.lv
/-- A slice of steps. -/
structure Sl9 (W : World) (v : Value) (ls : List St9) : Prop where
  val : ∃ ao cap, v = .slice ao ls.length cap ∧ (0 < ls.length → ∃ b off, ao = some ⟨b, off, none⟩ ∧ b < W.heap.size ∧ ∀ i, i < ls.length → st9c W b (off + i * 4) (ls.getD i st90))
  wf : ∀ n ∈ ls, (Lit.int .i64 n.op).wf = true ∧ (Lit.int .i64 n.page).wf = true ∧ (Lit.int .u16 n.b).wf = true ∧ SlI .u16 W n.lv n.l

theorem open_steps9 {H : Type} {enc : TypeId × Value → H} {w : World} {base : Nat} {held : Bool} {spare : Nat → Bool} {v : Value} {d : DataW H} {ps : List MemPlace}
    {r : Reach} {b0 : Nat} (hval : Value.okWide Tryz.prog w r b0 62 v) (hd : DataW.Trod enc Tryz.prog w base spare held 62 v d ps) : ∃ ls, Sl9 w v ls := by
  obtain ⟨fuel, hf⟩ := hd
  obtain ⟨ao, n, c, hv⟩ : ∃ ao n c, v = .slice ao n c := okWide_slice Tryz.underlying62 hval
  subst hv
  rcases open_slice_fields Tryz.underlying62 Tryz.underlying83 (by kernel_rfl) (by kernel_rfl) hf with ⟨h1, h2⟩ | ⟨a, len, cap, m, D, Pl, hv, hb, hl, hm, hmm, hx, hfs⟩
  · have : Value.slice ao n c = .slice none 0 0 := by simpa [Value.cells] using h1
    cases this
    exact ⟨[], ⟨⟨_, _, rfl, fun h => absurd h (by simp)⟩, fun n hn => absurd hn (by simp)⟩⟩
  · have : Value.slice ao n c = .slice (some a) len cap := by simpa [Value.cells] using hv
    cases this
    have hln : n ≤ m := by rw [hmm]; split <;> omega
    have hone : ∀ i, ∃ s : St9, i < n → (w.cell? (a.add (i * 4)) = some (.int .i64 s.op) ∧ w.cell? (a.add (i * 4 + 1)) = some (.int .i64 s.page) ∧ w.cell? (a.add (i * 4 + 2)) = some (.int .u16 s.b) ∧ w.cell? (a.add (i * 4 + 3)) = some s.lv) ∧
        (Lit.int .i64 s.op).wf = true ∧ (Lit.int .i64 s.page).wf = true ∧ (Lit.int .u16 s.b).wf = true ∧ SlI .u16 w s.lv s.l := by
      intro i
      by_cases hi : i < n
      · obtain ⟨ys, k, _, _, _, hg⟩ := hfs i (by omega)
        obtain ⟨v0, y0, c0, _, t0⟩ := hg 0 _ rfl
        obtain ⟨v1, y1, c1, _, t1⟩ := hg 1 _ rfl
        obtain ⟨v2, y2, c2, _, t2⟩ := hg 2 _ rfl
        obtain ⟨v3, y3, c3, _, t3⟩ := hg 3 _ rfl
        obtain ⟨n0, e0, _, w0⟩ := DataW.trod_int Tryz.underlying3 t0
        obtain ⟨n1, e1, _, w1⟩ := DataW.trod_int Tryz.underlying3 t1
        obtain ⟨n2, e2, _, w2⟩ := DataW.trod_int Tryz.underlying57 t2
        obtain ⟨zs, hz⟩ := open_nums_core Tryz.underlying68 Tryz.underlying57 (by kernel_rfl) t3
        simp only [List.cons.injEq, and_true] at e0 e1 e2
        subst e0 e1 e2
        exact ⟨⟨n0, n1, n2, v3, zs⟩, fun _ => ⟨⟨c0, c1, c2, c3⟩, w0, w1, w2, hz⟩⟩
      · exact ⟨st90, fun h => absurd h hi⟩
    obtain ⟨f, hfn⟩ := Classical.axiomOfChoice hone
    have hg : ∀ i, i < n → ((List.range n).map f).getD i st90 = f i := fun i hi => by simp [List.getD_eq_getElem?_getD, hi]
    refine ⟨(List.range n).map f, ⟨⟨some a, c, by simp, fun h => ?_⟩, ?_⟩⟩
    · simp at h
      obtain ⟨b, off, rfl⟩ := addr_plain (hfn 0 h).1.1
      refine ⟨b, off, rfl, lt_of_cell' (hfn 0 h).1.1, fun i hi => ?_⟩
      simp at hi
      rw [hg i hi]
      have h4 := (hfn i hi).1
      unfold st9c
      simpa only [Go.WideShapes.add_plain, Nat.add_assoc] using h4
    · intro s hs
      simp at hs
      obtain ⟨i, hi, rfl⟩ := hs
      exact (hfn i hi).2

set_option maxRecDepth 20000 in
set_option maxHeartbeats 2000000 in
theorem long9_any {w : World} {v : Value} {ls : List St9} (h : Sl9 w v ls) : Calls Tryz.prog 23 #[v] w fun e w' => ∃ b, e = .returned (.bool b) ∧ (b = false → ls.length ≤ 80) ∧ w = w' := by
  obtain ⟨⟨ao, cap, rfl, hval⟩, hwf⟩ := h
  have HV := Lib.hid hval
  have HW := Lib.hid hwf
  clear hval hwf
  go_enter Tryz.func23, Tryz.ntmps23
  go_wp2_with fail
  go_loopw [3, 4] (fun v3 v4 wr => ∃ k : Nat, ∃ m : Int, k ≤ ls.length ∧ k ≤ 200 ∧ v4 = .int .i64 k ∧ v3 = .int .i64 m ∧ wr = w) (fun _ v4 _ => ls.length - (intOf v4).toNat)
  case atStart => exact ⟨0, 0, Nat.zero_le _, Nat.zero_le _, rfl, rfl, rfl⟩
  case round =>
    obtain ⟨k, m, hk, hk3, rfl, rfl, rfl⟩ := hrel
    by_cases hlt : k < ls.length
    · have dl : decide ((k : Int) < (ls.length : Int)) = true := decide_eq_true (by omega)
      by_cases h3 : k < 200
      · have d3 : decide ((k : Int) < 200) = true := decide_eq_true (by omega)
        obtain ⟨b, off, rfl, hbl, hc⟩ := HV.out (by omega)
        obtain ⟨c0, c1, c2, c3⟩ := hc k hlt
        obtain ⟨-, -, -, ⟨ao2, cap2, e2, -⟩, -⟩ := HW.out (ls.getD k st90) (by rw [List.getD_eq_getElem?_getD, List.getElem?_eq_getElem hlt]; exact List.getElem_mem hlt)
        rw [e2] at c3
        generalize ls.getD k st90 = x at *
        have HC := Lib.hid hc
        clear hc e2
        go_wp2_with fail
        go_roundw
        case rel => exact ⟨k + 1, _, by omega, by omega, by go_num, rfl, trivial⟩
        case measure => simp [intOf]; omega
      · have d3 : decide ((k : Int) < 200) = false := decide_eq_false (by omega)
        have d4 : decide ((ls.length : Int) > 80) = true := decide_eq_true (by omega)
        go_wp2_with fail
        go_ret
        exact ⟨_, rfl, (fun h => (by cases h)), rfl⟩
    · have dl : decide ((k : Int) < (ls.length : Int)) = false := decide_eq_false (by omega)
      by_cases h150 : 80 < ls.length
      · have d4 : decide ((ls.length : Int) > 80) = true := decide_eq_true (by omega)
        go_wp2_with fail
        go_ret
        exact ⟨_, rfl, (fun h => (by cases h)), rfl⟩
      · have d4 : decide ((ls.length : Int) > 80) = false := decide_eq_false (by omega)
        go_wp2_with fail
        go_ret
        exact ⟨_, rfl, (fun _ => (by omega)), rfl⟩
end Go.Proofs.YtjjphcnoegaimaaGreat

namespace Go.Proofs.YtjjphcnoegaimaaGreat
open Go.RowKit Go.Shelf Go.Maps
set_option linter.unusedSimpArgs false
set_option maxRecDepth 20000
set_option linter.unusedVariables false

section
variable {w0 w W W' : World} {X : Nat → Prop} {p jb N tb m bsn : Nat} {M : Wl} {x : Ino} {i b j v : Int}
theorem cutF_wf {x : Ino} (hx : x.Wf) (M : Wl) (bs q : Nat) : ∀ z ∈ cutF x M bs q, (Lit.int .u16 z).wf = true := by
  intro z hz
  rw [cutF, List.mem_append, List.mem_append] at hz
  rcases hz with (hz | hz) | hz
  · have h1 := List.mem_of_mem_drop (List.mem_filter.1 hz).1
    simp only [Ino.ds4, List.mem_cons, List.not_mem_nil, or_false] at h1
    rcases h1 with rfl | rfl | rfl | rfl
    · exact wf_u16 hx.d0.1 hx.d0.2
    · exact wf_u16 hx.d1.1 hx.d1.2
    · exact wf_u16 hx.d2.1 hx.d2.2
    · exact wf_u16 hx.d3.1 hx.d3.2
  · exact toldL_wf x M bs z (List.mem_of_mem_drop (List.mem_filter.1 hz).1)
  · split at hz
    · rw [List.mem_singleton] at hz
      rw [hz]
      exact wf_u16 hx.n.1 hx.n.2
    · cases hz
theorem sli_row {B : Nat} {u : Value} {zs : List Int} (h : W.ownsRow B 57 1 u zs.length (u16s zs)) (hw : ∀ z ∈ zs, (Lit.int .u16 z).wf = true) : SlI .u16 W u zs := by
  refine ⟨?_, hw⟩
  rcases h.2 with ⟨rfl, h0⟩ | ⟨g, cap, cur, rfl, h0, hh, _⟩
  · exact ⟨none, 0, by rw [h0], fun hp => by omega⟩
  · exact ⟨_, _, rfl, fun _ => ⟨g, 0, rfl, blk_lt hh, fun k hk => by rw [Nat.zero_add]; exact ownsRow_cell (ownsRow_base h) rfl (u16s_get zs hk)⟩⟩
theorem row_below {B : Nat} {e : TypeId} {size : Nat} {u : Value} {k : Nat} {xs : List Value} (h : W.ownsRow B e size u k xs) (hB : Below W.heap.size W W') : W'.ownsRow B e size u k xs :=
  ownsRow_blockB h (fun k e => hB.block k (by
    rcases h.2 with ⟨e2, _⟩ | ⟨g, c, cur, e2, _, hh, _⟩
    · rw [e2] at e; cases e
    · rw [e2] at e; cases e; exact blk_lt hh))
theorem SlI.of {u : Value} {zs : List Int} (h : SlI .u16 W u zs) (hB : Below W.heap.size W W') : SlI .u16 W' u zs := by
  obtain ⟨⟨ao, cap, e, hc⟩, hw⟩ := h
  refine ⟨⟨ao, cap, e, fun h0 => ?_⟩, hw⟩
  obtain ⟨b, off, e2, hb, hcc⟩ := hc h0
  exact ⟨b, off, e2, Nat.lt_of_lt_of_le hb hB.size, fun j hj => (hB.cell (p := ⟨b, off + j, none⟩) hb).trans (hcc j hj)⟩

set_option maxHeartbeats 1000000 in
/-- Are two rows the same? -/
theorem same7_any {va vb : Value} {la lb : List Int} (ha : SlI .u16 W va la) (hb : SlI .u16 W vb lb) (hl : la.length ≤ 100000) (hl2 : lb.length ≤ 100000) : Calls Tryz.prog 55 #[va, vb] W fun e W' => e = .returned (.bool (decide (la = lb))) ∧ Below W.heap.size W W' := by
  obtain ⟨⟨ao, cap, rfl, hca⟩, -⟩ := ha
  obtain ⟨⟨bo, bcap, rfl, hcb⟩, -⟩ := hb
  have HA := Lib.hid hca
  have HB := Lib.hid hcb
  clear hca hcb
  by_cases hle : la.length = lb.length
  · have e1 : ((la.length : Int) != (lb.length : Int)) = false := by simp; omega
    have HLE := Lib.hid hle
    rw [← hle] at HB e1 ⊢
    clear hle
    go_enter Tryz.func55, Tryz.ntmps55
    go_wp2_with fail
    go_loopw [5] (fun v5 wr => ∃ k : Nat, k ≤ la.length ∧ v5 = .int .i64 k ∧ Below W.heap.size W wr ∧ la.take k = lb.take k) (fun v5 _ => la.length - (intOf v5).toNat)
    case atStart => exact ⟨0, Nat.zero_le _, rfl, Below.refl _ _, rfl⟩
    case round =>
      obtain ⟨k, hk, rfl, hBr, htk⟩ := hrel
      by_cases hlt : k < la.length
      · obtain ⟨ga, oa, rfl, hga, hc1⟩ := HA.out (by omega)
        obtain ⟨gb, ob, rfl, hgb, hc2⟩ := HB.out (by omega)
        have d1 := (hBr.cell (p := ⟨ga, oa + k, none⟩) hga).trans (hc1 k hlt)
        have d2 := (hBr.cell (p := ⟨gb, ob + k, none⟩) hgb).trans (hc2 k (by have := HLE.out; omega))
        have hs1 : la.take (k + 1) = la.take k ++ [la.getD k 0] := by rw [List.take_succ_eq_append_getElem hlt, List.getD_eq_getElem?_getD, List.getElem?_eq_getElem hlt]; rfl
        have hlt2 : k < lb.length := by have := HLE.out; omega
        have hs2 : lb.take (k + 1) = lb.take k ++ [lb.getD k 0] := by rw [List.take_succ_eq_append_getElem hlt2, List.getD_eq_getElem?_getD, List.getElem?_eq_getElem hlt2]; rfl
        generalize la.getD k 0 = za at *
        generalize lb.getD k 0 = zb at *
        have HS1 := Lib.hid hs1
        have HS2 := Lib.hid hs2
        have HTK := Lib.hid htk
        have HBr := Lib.hid hBr
        clear hc1 hc2 hs1 hs2 htk hBr hlt2
        by_cases he : za = zb
        · have e2 : (za != zb) = false := by simpa using he
          have HE := Lib.hid he
          clear he
          go_wp2_with fail
          go_region
          all_goals
            go_wp2_with fail
            go_roundw
            case rel => exact ⟨k + 1, by omega, by go_num, HBr.out.drew, by rw [HS1.out, HS2.out, HTK.out, HE.out]⟩
            case measure => simp [intOf]; omega
        · have e2 : (za != zb) = true := by simpa using he
          have hne : decide (la = lb) = false := decide_eq_false (fun e => by
            have h1 := HS1.out
            rw [e, HS2.out] at h1
            have := List.append_cancel_left h1
            simp at this
            exact he this.symm)
          have HNE := Lib.hid hne
          clear he hne
          go_wp2_with fail
          go_region
          all_goals
            go_wp2_with fail
            go_ret
            exact ⟨by rw [HNE.out]; rfl, HBr.out.drew⟩
      · obtain rfl : k = la.length := by omega
        have he : la = lb := by
          rw [List.take_length, HLE.out, List.take_length] at htk
          exact htk
        have hd : decide (la = lb) = true := decide_eq_true he
        have HD := Lib.hid hd
        have HBr := Lib.hid hBr
        clear he hd htk hBr
        go_wp2_with fail
        go_ret
        exact ⟨by rw [HD.out]; rfl, HBr.out⟩
  · have e1 : ((la.length : Int) != (lb.length : Int)) = true := by simp <;> omega
    have hne : decide (la = lb) = false := decide_eq_false (fun e => hle (by rw [e]))
    have HNE := Lib.hid hne
    clear hne hle
    go_enter Tryz.func55, Tryz.ntmps55
    go_wp2_with fail
    go_ret
    exact ⟨by rw [HNE.out]; rfl, Below.refl _ _⟩

theorem bset_any (h : TJ w0 X p jb N 0 1 40 0 0 (newS N) tb m M false W) (hg : GeoN i b j N) (st : St x M bsn b) (hb : (bsn : Int) = fr i b j 5 + x.n - 1) (h0 : 0 ≤ v) (hv : v ≤ b) (h1 : v < 65536) (page : Nat) (hp : page < 36) :
    Calls Tryz.prog 26 #[.pointer (some ⟨tb, 0, none⟩), gv i b j, .agg (ic x), .int .i64 page, .int .u16 v] W fun e W' => e = .returned (.tuple #[.agg (ic (stX x page v)), .int .i64 0]) ∧ TJ w0 X p jb N 0 1 40 0 0 (newS N) tb m (stM x M bsn page v) false W' ∧ Kb w0 (fun k => X k ∧ k ≠ m) W W' := by
  have hm : MayB i b j x v := ⟨hg.m, hv, st.n.2, st.d⟩
  unfold stX stM
  by_cases h4 : page < 4
  · rw [if_pos h4, if_pos h4]
    refine (bset_dir hm st.wf h0 h1 page h4 W).mono ?_
    rintro e W' ⟨rfl, hB⟩
    exact ⟨rfl, h.of hB, (h.j.dev.kbelow hB).less (fun _ hk => hk.1)⟩
  · rw [if_neg h4, if_neg h4]
    exact bset_ind h hg hm st.wf st.sz st.n.1 hb h0 h1 page (by omega) hp (.inl st.here)
set_option maxHeartbeats 1000000 in
theorem bget_nil (g : Value) (hg : ∃ i b j, g = gv i b j) (x : Ino) (page : Nat) (hp : page < 36) (W : World) : Calls Tryz.prog 32 #[.pointer none, g, .agg (ic x), .int .i64 page] W fun e W' => e = .returned (.tuple #[.int .u16 0, .int .i64 1]) ∧ Below W.heap.size W W' := by
  obtain ⟨i, b, j, rfl⟩ := hg
  have hmy := fun W => bmay_nil (gv i b j) (.agg (ic x)) (.int .u16 0) (.bool true) W ⟨i, b, j, rfl⟩ ⟨x, rfl⟩
  unfold gv ic at *
  have HMY := Lib.hid hmy
  clear hmy
  have e1 : decide ((page : Int) ≥ 0) = true := decide_eq_true (by omega)
  have e2 : decide ((page : Int) < 36) = true := decide_eq_true (by omega)
  have hB1 : Below W.heap.size W ((W.alloc (.cells #[.int .i64 i, .int .i64 b, .int .i64 j] 56)).alloc (.cells #[.int .u8 x.k, .int .u16 x.l, .int .u32 x.s, .int .u16 x.d0, .int .u16 x.d1, .int .u16 x.d2, .int .u16 x.d3, .int .u16 x.n] 61)) := bal (bnew _ _) _
  have HB1 := Lib.hid hB1
  clear hB1
  go_enter Tryz.func32, Tryz.ntmps32
  go_wp2_with fail
  obtain ⟨W1, hW1⟩ : ∃ W1, (W.alloc (.cells #[.int .i64 i, .int .i64 b, .int .i64 j] 56)).alloc (.cells #[.int .u8 x.k, .int .u16 x.l, .int .u32 x.s, .int .u16 x.d0, .int .u16 x.d1, .int .u16 x.d2, .int .u16 x.d3, .int .u16 x.n] 61) = W1 := ⟨_, rfl⟩
  rw [hW1] at HB1
  simp only [hW1]
  clear hW1
  refine (HMY.out _).mono ?_
  rintro e w2 ⟨rfl, hB2⟩
  have HB2 := Lib.hid (bt HB1.out hB2)
  clear hB2
  go_wp2_with fail
  go_ret2
  exact ⟨rfl, HB2.out⟩
/-- What All answers. -/
theorem ball_any2 (h : TJ w0 X p jb N 0 1 40 0 0 (newS N) tb m M false W) (hg : GeoN i b j N) (hm : MayB i b j x 0) (hx : x.Wf) (hs : Sz M) (hb : x.n ≠ 0 → (bsn : Int) = fr i b j 5 + x.n - 1) (hfit : (pget bsn M).isSome = true ∨ M.length < 37) :
    Calls Tryz.prog 28 #[.pointer (some ⟨tb, 0, none⟩), gv i b j, .agg (ic x)] W fun e W' => ∃ u X2, e = .returned (.tuple #[u, .int .i64 0]) ∧ W'.ownsRow W.heap.size 57 1 u (cutF x M bsn 0).length (u16s (cutF x M bsn 0)) ∧ (∀ k, X k → X2 k) ∧ (∀ j, u.ownBlock = some j → X2 j) ∧ TJ w0 X2 p jb N 0 1 40 0 0 (newS N) tb m (cutM x M bsn 0) false W' ∧ Kb w0 (fun k => X k ∧ k ≠ m) W W' := by
  have hB1 : Below W.heap.size W ((W.alloc (.cells #[.int .i64 i, .int .i64 b, .int .i64 j] 56)).alloc (.cells (ic x) 61)) := bal (bnew _ _) _
  have hcut := bcut_any2 (h.of hB1) hg hm hx hs hb 0 (by decide) hfit
  rw [show ((0 : Nat) : Int) = 0 from rfl] at hcut
  have hB1s := hB1.size
  have hkb1 := h.j.dev.kbelow hB1
  have HH := Lib.hid h
  have HCU := Lib.hid hcut
  have HB1S := Lib.hid hB1s
  have HKB1 := Lib.hid hkb1
  clear h hg hm hx hs hb hfit hB1 hcut hB1s hkb1
  unfold gv at HCU ⊢
  generalize hF : cutF x M bsn 0 = F at *
  unfold CutPost2 at HCU
  rw [hF] at HCU
  unfold ic at *
  go_enter Tryz.func28, Tryz.ntmps28
  go_wp2_with fail
  refine HCU.out.mono ?_
  rintro e w2 ⟨u, X2, rfl, hrow, hxx, hrx, hT, hK⟩
  have HXX := Lib.hid hxx
  have HRX := Lib.hid hrx
  clear hxx hrx
  have HROW := Lib.hid hrow
  have HT := Lib.hid hT
  have HK := Lib.hid hK
  clear hrow hT hK hF
  go_wp2_with fail
  go_ret2
  refine ⟨u, X2, rfl, row_below (ownsRow_weak HROW.out HB1S.out) (bnew _ _), HXX.out, HRX.out, HT.out.of (bnew _ _), (HKB1.out.less (fun _ h => h.1)).t (HK.out.t ((HT.out.j.dev.kbelow (bnew _ _)).less (fun _ h => HXX.out _ h.1)))⟩
/-- The inode of the statements without the document's answer. -/
def freshI : Ino := ⟨1, 0, 2304, 0, 0, 0, 0, 16⟩
def freshM : Wl := pins ((62 : Nat) : Int) (tellB []) []
theorem freshI_wf : freshI.Wf := by constructor <;> decide
theorem tellB_nil : tellB [] = zsec := by kernel_rfl
theorem fresh_st : St freshI freshM 62 16 := by
  refine ⟨freshI_wf, fun k hk => ?_, by decide, fun y hy => ?_, pins_here _ _ _⟩
  · have : k = 0 ∨ k = 1 ∨ k = 2 ∨ k = 3 := by omega
    rcases this with rfl | rfl | rfl | rfl <;> decide
  · have h1 : y = (((62 : Nat) : Int), tellB []) := by simpa [freshM, pins] using hy
    rw [h1]
    exact tellB_size [] (by decide)
theorem fresh_pg (p : Nat) (hp : p < 36) : pg freshI freshM 62 p = 0 := by
  unfold pg
  split
  · have : p = 0 ∨ p = 1 ∨ p = 2 ∨ p = 3 := by omega
    rcases this with rfl | rfl | rfl | rfl <;> rfl
  · rw [toldL, if_neg (by decide), freshM, rd_pins, tellB, bs_list, gots_told (fun z hz => by cases hz) (by decide)]
    simp only [tolds, List.nil_append, List.length_nil, List.getD_eq_getElem?_getD, List.getElem?_replicate]
    split <;> rfl
/-- A transaction with that inode. -/
def Fr9 (w0 W : World) (tb : Nat) (W' : World) : Prop := ∃ (X : Nat → Prop) (p jb m : Nat), TJ w0 X p jb 63 0 1 40 0 0 (newS 63) tb m freshM false W' ∧ (∀ k, w0.heap.size ≤ k → k < W.heap.size → X k) ∧ W.heap.size ≤ jb ∧ W.heap.size ≤ tb ∧ W.heap.size ≤ m
set_option maxHeartbeats 2000000 in
theorem fresh_any (hB : Below w0.heap.size w0 W) : Calls Tryz.prog 37 #[] W fun e W' => ∃ tb, e = .returned (.tuple #[.pointer (some ⟨tb, 0, none⟩), gv 8 16 40, .agg (ic freshI), .bool true]) ∧ Fr9 w0 W tb W' := by
  have HB := Lib.hid hB
  clear hB
  unfold gv
  go_enter Tryz.func37, Tryz.ntmps37
  go_wp2_with fail
  obtain ⟨W1, hW1⟩ : ∃ W1, (W.alloc (.cells #[.int .i64 0, .int .i64 0, .int .i64 0] 56)).alloc (.cells #[.int .u8 0, .int .u16 0, .int .u32 0, .int .u16 0, .int .u16 0, .int .u16 0, .int .u16 0, .int .u16 0] 61) = W1 := ⟨_, rfl⟩
  have b1 : W1.heap[W.heap.size]? = some (.cells #[.int .i64 0, .int .i64 0, .int .i64 0] 56 (0, 0)) := by rw [← hW1, hp_old _ _ (by simp), hp_new _ _ rfl]
  have b2 : W1.heap[W.heap.size + 1]? = some (.cells #[.int .u8 0, .int .u16 0, .int .u32 0, .int .u16 0, .int .u16 0, .int .u16 0, .int .u16 0, .int .u16 0] 61 (0, 0)) := by rw [← hW1, hp_new _ _ (by simp)]
  have HS0 : Hid (W.heap.size + 1 < W1.heap.size) := Lib.hid (blk_lt b2)
  have hB1 : Below W.heap.size W W1 := by rw [← hW1]; exact bal (bnew _ _) _
  simp only [hW1]
  clear hW1
  refine (small_any W1).mono ?_
  rintro e w2 ⟨rfl, hB2⟩
  unfold gv
  go_wp2_with fail
  have hB3 := bnew w2 (.cells #[.int .i64 8, .int .i64 16, .int .i64 40] 56)
  have b3 : (w2.alloc (.cells #[.int .i64 8, .int .i64 16, .int .i64 40] 56)).heap[w2.heap.size]? = some (.cells #[.int .i64 8, .int .i64 16, .int .i64 40] 56 (0, 0)) := hp_new _ _ rfl
  have b1 := bblk hB3 (bblk hB2 b1)
  have b2 := bblk hB3 (bblk hB2 b2)
  have hBW := bt hB1 (bt hB2 hB3)
  have hs12 := hB1.size
  have hs2 := hB2.size
  obtain ⟨W3, hW3⟩ : ∃ W3, w2.alloc (.cells #[.int .i64 8, .int .i64 16, .int .i64 40] 56) = W3 := ⟨_, rfl⟩
  rw [hW3] at b1 b2 b3 hB3 hBW
  simp only [hW3]
  have hs3 := blk_lt b3
  have hs1 := blk_lt b2
  have hmd := made9_any mays_small (N := 63) (by rfl) (bt HB.out hBW)
  unfold gv at hmd
  have HMD := Lib.hid hmd
  have HBW := Lib.hid hBW
  clear hmd hB1 hB2 hB3 hBW hW3
  have c1 := cl_of b1
  have c3 := cl_of b3
  have g0 := cl_of b3 0
  have g1 := cl_of b3 1
  have g2 := cl_of b3 2
  have HS1 := Lib.hid hs1
  have HS2 := Lib.hid hs2
  have HS3 := Lib.hid hs3
  have HS12 := Lib.hid hs12
  clear hs1 hs2 hs3 hs12 c1 c3
  go_wp2_with fail
  refine HMD.out.mono ?_
  rintro e w4 ⟨tb, p, rfl, X, jb, m, h4, hX, hjb, htb, hm, hB4⟩
  have d1 := bblk hB4 b1
  have d2 := bblk hB4 b2
  have d3 := bblk hB4 b3
  have hbg := bbegin_any (x := ⟨1, 0, 2304, 0, 0, 0, 0, 0⟩) (v := 16) (bsn := 62) h4 geoN_small ⟨mays_small, by decide, by decide, fun k hk => by
    have : k = 0 ∨ k = 1 ∨ k = 2 ∨ k = 3 := by omega
    rcases this with rfl | rfl | rfl | rfl <;> decide⟩ (by constructor <;> decide) rfl (by decide) (by decide) (by rfl) (.inr (by decide))
  unfold gv ic Ino.setn at hbg
  have HBG := Lib.hid hbg
  have g0 := cl_of d3 0
  have g1 := cl_of d3 1
  have g2 := cl_of d3 2
  clear b1 b2 b3 hbg
  have HX := Lib.hid hX
  have HJB := Lib.hid hjb
  have HTB := Lib.hid htb
  have HMM := Lib.hid hm
  have HH4 := Lib.hid h4
  have HD1 := Lib.hid d1
  have HD2 := Lib.hid d2
  have HD3 := Lib.hid d3
  clear hX hjb htb hm h4 hB4 d1 d2 d3 HMD
  go_wp2_with fail
  refine HBG.out.mono ?_
  rintro e w5 ⟨rfl, h5, k5⟩
  have hw0 := HB.out.size
  have hbw := HBW.out.size
  have hs1 := HS1.out
  have hs2 := HS2.out
  have hs3 := HS3.out
  have hs12 := HS12.out
  have hm := HMM.out
  have hin : ∀ k, W.heap.size ≤ k → k < W3.heap.size → w5.heap[k]? = w4.heap[k]? := fun k h1 h2 => k5 k (.inr ⟨HX.out k (by omega) h2, by omega⟩)
  have d1 := (hin W.heap.size (by omega) (by omega)).trans HD1.out
  have d2 := (hin (W.heap.size + 1) (by omega) (by omega)).trans HD2.out
  have d3 := (hin w2.heap.size (by omega) (by omega)).trans HD3.out
  have hB6 := bnew w5 (.cells #[.int .u8 1, .int .u16 0, .int .u32 2304, .int .u16 0, .int .u16 0, .int .u16 0, .int .u16 0, .int .u16 16] 61)
  have b4 : (w5.alloc (.cells #[.int .u8 1, .int .u16 0, .int .u32 2304, .int .u16 0, .int .u16 0, .int .u16 0, .int .u16 0, .int .u16 16] 61)).heap[w5.heap.size]? = some (.cells #[.int .u8 1, .int .u16 0, .int .u32 2304, .int .u16 0, .int .u16 0, .int .u16 0, .int .u16 0, .int .u16 16] 61 (0, 0)) := hp_new _ _ rfl
  have d1 := bblk hB6 d1
  have d2 := bblk hB6 d2
  have d3 := bblk hB6 d3
  have h6 := h5.of hB6
  clear g0 g1 g2
  obtain ⟨W6, hW6⟩ : ∃ W6, w5.alloc (.cells #[.int .u8 1, .int .u16 0, .int .u32 2304, .int .u16 0, .int .u16 0, .int .u16 0, .int .u16 0, .int .u16 16] 61) = W6 := ⟨_, rfl⟩
  rw [hW6] at d1 d2 d3 b4 h6
  have HS6 : Hid (TJ w0 X p jb 63 0 1 40 0 0 (newS 63) tb m freshM false W6) := Lib.hid h6
  have hj5 := blk_lt h5.j.obj
  have ht5 := blk_lt h5.t.obj
  have hm5 := h5.t.mlt
  obtain ⟨ba, hba⟩ : ∃ ba, W.heap.size = ba := ⟨_, rfl⟩
  obtain ⟨bi, hbi⟩ : ∃ bi, ba + 1 = bi := ⟨_, rfl⟩
  obtain ⟨bq, hbq⟩ : ∃ bq, w2.heap.size = bq := ⟨_, rfl⟩
  obtain ⟨bn, hbn⟩ : ∃ bn, w5.heap.size = bn := ⟨_, rfl⟩
  have hjb := HJB.out
  have htb := HTB.out
  have HSET : Hid (∀ (W8 : World) (o : Nat) (u : Value), TJ w0 X p jb 63 0 1 40 0 0 (newS 63) tb m freshM false W8 → TJ w0 X p jb 63 0 1 40 0 0 (newS 63) tb m freshM false (W8.setCell ⟨ba, o, none⟩ u) ∧ TJ w0 X p jb 63 0 1 40 0 0 (newS 63) tb m freshM false (W8.setCell ⟨bi, o, none⟩ u)) := Lib.hid (fun W8 o u h8 => ⟨h8.setC (HX.out _ (by omega) (by omega)) (by omega) (by omega) (by omega) (by omega) o u, h8.setC (HX.out _ (by omega) (by omega)) (by omega) (by omega) (by omega) (by omega) o u⟩)
  have HFIN : Hid (∀ W8, TJ w0 X p jb 63 0 1 40 0 0 (newS 63) tb m freshM false W8 → Fr9 w0 W tb W8) := Lib.hid (fun W8 h8 => ⟨X, p, jb, m, h8, fun k h1 h2 => HX.out k h1 (by omega), by omega, by omega, by omega⟩)
  have hs0 := HS0.out
  have hne1 : ba ≠ bi := by omega
  have hne2 : bi ≠ ba := by omega
  have hne3 : bq ≠ ba := by omega
  have hne4 : bq ≠ bi := by omega
  have hne5 : bn ≠ ba := by omega
  have hne6 : bn ≠ bi := by omega
  have hne7 : ba ≠ bq := by omega
  have hne8 : bi ≠ bq := by omega
  have hne9 : ba ≠ bn := by omega
  have hne0 : bi ≠ bn := by omega
  simp only [hba, hbi, hbq, hbn] at d1 d2 d3 b4
  have a0 := cl_of d1 0
  have a1 := cl_of d1 1
  have a2 := cl_of d1 2
  have az := fz_of d1
  have i0 := cl_of d2 0
  have i1 := cl_of d2 1
  have i2 := cl_of d2 2
  have i3 := cl_of d2 3
  have i4 := cl_of d2 4
  have i5 := cl_of d2 5
  have i6 := cl_of d2 6
  have i7 := cl_of d2 7
  have iz := fz_of d2
  have g0 := cl_of d3 0
  have g1 := cl_of d3 1
  have g2 := cl_of d3 2
  have n0 := cl_of b4 0
  have n1 := cl_of b4 1
  have n2 := cl_of b4 2
  have n3 := cl_of b4 3
  have n4 := cl_of b4 4
  have n5 := cl_of b4 5
  have n6 := cl_of b4 6
  have n7 := cl_of b4 7
  clear hs0 d1 d2 d3 b4 hB6 h6 h5 k5 hin hw0 hbw hs1 hs2 hs3 hs12 hm hj5 ht5 hm5 hjb htb HB HBW HS1 HS2 HS3 HS12 HBG HX HJB HTB HMM HH4 HD1 HD2 HD3
  go_wp2_with fail
  try simp only [hba, hbi, hbq, hbn, hW6]
  clear hba hbi hbq hbn hW6
  go_region
  all_goals
    go_wp2_with fail
    refine bodyPost_ret (v := .tuple #[.pointer (some ⟨tb, 0, none⟩), gv 8 16 40, .agg (ic freshI), .bool true]) (by simp [results, Tryz.results37, go_sem, gv, ic, freshI, a0, a1, a2, i0, i1, i2, i3, i4, i5, i6, i7]) rfl ?_
    refine ⟨tb, rfl, HFIN.out _ (TJ.drewn ?_ 1)⟩
    repeat (first | refine (HSET.out _ _ _ ?_).2 | refine (HSET.out _ _ _ ?_).1)
    exact HS6.out
end
end Go.Proofs.YtjjphcnoegaimaaGreat
