/- slices.AppendSeq and slices.Collect at int, over whatever iterator; the iterator of maps.Keys at sectors. maps.Keys at the sectors' rows; slices.Sorted at int. -/
import Derived.Test.YtjjphcnoegaimaaGreatProg
import Derived.Test.YtjjphcnoegaimaaGreatGA
import Derived.Maps.AppendAt
import Derived.Test.YtjjphcnoegaimaaGreatShelf
import Derived.Lib.SlKeysI
import Derived.RangeFuncBound
namespace Go.Proofs.YtjjphcnoegaimaaGreat
open Go.RowKit Go.Shelf Go.Maps
attribute [local go_sem] Oper.semAt_some

theorem wpListIn_append_at {F : Fence} {n : Nat} {P : Program} (w : World) {ops : Array Oper} {rest : List Oper} {o : Oper} {a : Act} {Q : Exit → Act → World → Prop}
    (hg : o.guard = none) (s x : Operand) (t : TypeId) (hop : o.op = Op.call { callee := Callee.builtin Builtin.append, args := #[s, x], argTypes := #[t, t] })
    (base : Nat) (e : TypeId) (i : TypeInfo) (z : Value) (size bytes : Nat) (h1 : P.underlying t = some (.slice e)) (h2 : P.info? e = some i) (h3 : i.zero = some z) (h4 : i.size = size) (h5 : i.bytes = bytes) (h6 : z.cells.size = size) (h7 : 0 < size)
    (v : Value) (k : Nat) (xs : List Value) (hs : a.eval s = v) (hown : w.ownsRow base e size v k xs) (ad : Addr) (m c : Nat) (news : List Value) (hx : a.eval x = .slice (some ad) m c) (hn : news.length = m * size)
    (hc : ∀ j u, news[j]? = some u → w.cell? (ad.add j) = some u) (h1c : ∀ u ∈ news, u.oneCell' = true) (b1 : k + m ≤ maxLen) (b2 : (k + m) * bytes ≤ 140737488355328) (b3 : base ≤ w.heap.size)
    (hK : ∀ v' w', w'.ownsRow base e size v' (k + m) (xs ++ news) → w.grownBy w' v.ownBlock → (v' = .slice none 0 0 ↔ v = .slice none 0 0 ∧ m = 0) → (v'.ownBlock = v.ownBlock ∨ v'.ownBlock = some w.heap.size) → wpListIn F n P ops Q rest (a.put o.dst v') w') :
    wpListIn F n P ops Q (o :: rest) a w := by
  refine wpListIn_plain hg fun K hK' => ?_
  obtain ⟨v', w', hrun, r1, r2, r3, r4⟩ := run_append_own_at (P := P) w base t o.type e i z size bytes h1 h2 h3 h4 h5 h6 h7 v k xs hown ad m c news hn hc h1c b1 b2 b3
  unfold Oper.wpIn
  refine ⟨?_, ?_⟩
  · simp [Oper.about, hop, resolve, Target.leads, Sem.run_pure]
  · rw [Oper.semAt_plain F _ _ (by rw [hop]; intro c hc'; cases hc')]
    simp [execOp, hop, resolve, invoke, builtin, hs, hx, hrun, Result.andThen]
    exact hK' _ _ (hK v' w' r1 r2 r3 r4)

/-- What a round that appends to the row in box B keeps: all blocks but the box and the row; the row stays, or lies in a new block. -/
def InRow (W : World) (B k : Nat) : Prop := ∃ g n c, W.cell? ⟨B, 0, none⟩ = some (.slice (some ⟨g, 0, none⟩) n c) ∧ g = k
structure ApKp (B : Nat) (W W' : World) : Prop where
  walks : KeepsWalks W W'
  same : ∀ k cs t fz, W.heap[k]? = some (.cells cs t fz) → k ≠ B → ¬ InRow W B k → W'.heap[k]? = some (.cells cs t fz)
  row : ∀ k, InRow W' B k → InRow W B k ∨ W.heap.size ≤ k
theorem ApKp.t {B : Nat} {X Y Z : World} (h : ApKp B X Y) (k : ApKp B Y Z) : ApKp B X Z := by
  refine ⟨h.walks.trans k.walks, fun i cs t fz hi hb hr => ?_, fun i hi => ?_⟩
  · refine k.same i cs t fz (h.same i cs t fz hi hb hr) hb (fun e => ?_)
    rcases h.row i e with e | e
    · exact hr e
    · have := blk_lt hi; omega
  · rcases k.row i hi with e | e
    · exact h.row i e
    · exact .inr (Nat.le_trans h.walks.size e)
theorem ApKp.b {B : Nat} {w : World} (hB : B < w.heap.size) (W : World) (l : Nat) (o o' : Obj) (hl : w.heap.size ≤ l) (h : W.heap[l]? = some o) (hc : o.isCells = false) (hw : o.isWalk = false) : ApKp B W (W.putObj l o') := by
  have hne : B ≠ l := by omega
  have hcell : (W.putObj l o').cell? ⟨B, 0, none⟩ = W.cell? ⟨B, 0, none⟩ := World.cell?_of_block (World.putObj_heap_other hne)
  refine ⟨KeepsWalks.putObj _ h hw, fun k cs t fz hk hb hr => (World.putObj_heap_other (fun e => ?_)).trans hk, fun k ⟨g, n, c, h1, h2⟩ => .inl ⟨g, n, c, by rw [← hcell]; exact h1, h2⟩⟩
  subst e
  rw [h] at hk
  cases hk
  cases hc
theorem InRow.iff_slice {W : World} {B : Nat} {v : Value} (h : W.cell? ⟨B, 0, none⟩ = some v) (k : Nat) : InRow W B k → v.ownBlock = some k := by
  rintro ⟨g, n, c, h1, h2⟩
  rw [h] at h1
  cases h1
  rw [← h2]
  rfl

theorem Tryz.infoInt : (Tryz.prog.info? 3).map (fun i => (i.zero, i.size, i.bytes)) = some (some (.int .i64 0), 1, 8) := by kernel_rfl

set_option maxRecDepth 100000 in
set_option maxHeartbeats 2000000 in
/-- slices.AppendSeq(nil, seq). -/
theorem appendseq_gen {gf : Nat} {lb : Array Value} {S : List Int → Prop} {N : Nat} (hN : N ≤ 1000000) (w : World) (eg : ∀ args w, (Go.callFunc gf args).run Tryz.prog w = .ok (.enter gf args) w)
    (hseq : SeqStopsK Fence.wide 8 Tryz.prog gf lb (fun x : Int => #[Value.int .i64 x]) (ApKp w.heap.size) S (fun _ => True) N (w.alloc (.cells #[.slice none 0 0] 152))) :
    Calls Tryz.prog 129 #[.slice none 0 0, .func (.func gf) #[] lb] w fun e w' => ∃ (v : Value) (ss : List Int), e = .returned v ∧ S ss ∧
      w'.ownsRow w.heap.size 3 1 v ss.length (ss.map (Value.int .i64)) ∧ (v = .slice none 0 0 ↔ ss = []) ∧ Below w.heap.size w w' := by
  obtain ⟨i0, hi, hz0, hz1, hz2⟩ := info_parts Tryz.infoInt
  refine (callsIn_wide (n := 9)).1 (callsIn_of_wp_marks Tryz.func129 rfl trivial ?_ rfl)
  refine wpIn_wide.2 ?_
  simp only [Tryz.ntmps129, List.size_toArray, List.length_cons, List.length_nil, Nat.reduceAdd, Nat.reduceSub, Array.replicate_succ, Array.replicate_zero, List.push_toArray, List.append_toArray, List.nil_append, List.cons_append]
  go_wp2_with fail
  obtain ⟨W0, hW0⟩ : ∃ W0, w.alloc (.cells #[.slice none 0 0] 152) = W0 := ⟨_, rfl⟩
  have hs0 : W0.heap.size = w.heap.size + 1 := by rw [← hW0]; simp
  have hv0 : Boxed W0 w.heap.size 152 (.slice none 0 0) := by rw [← hW0]; exact Boxed.new _ _ _
  have hB0 : Below w.heap.size w W0 := by rw [← hW0]; exact (Below.refl _ w).alloc (Nat.le_refl _) _
  rw [hW0] at hseq ⊢
  clear hW0
  refine (wpIn_wide (n := 9)).1 ?_
  refine wpIn_rangeFunc_ownF rfl (by omega) (gf := gf) (lb := lb) rfl trivial eg
    hseq ApKp.t (ApKp.b (by omega)) (Below.refl _ _) (fun _ => rfl)
    (fun pre W => (∃ v, Boxed W w.heap.size 152 v ∧ W.ownsRow w.heap.size 3 1 v pre.length (pre.map (Value.int .i64)) ∧ (v = .slice none 0 0 ↔ pre = [])) ∧ Below w.heap.size w W)
    (fun _ _ _ => False)
    (OwnFrom.and (Own.from (holdsRow_own w.heap.size w.heap.size 152 3 1 (fun pre : List Int => pre.length) (fun pre => pre.map (Value.int .i64)) (fun pre v => v = .slice none 0 0 ↔ pre = [])) _) (ownFrom_below (Nat.le_refl _) (by omega)))
    (fun _ _ _ _ _ hs _ _ => hs)
    ⟨⟨_, hv0, World.ownsRow_nil _ _ _ _, by simp⟩, hB0⟩
    (fun x => { tmps := #[.slice none 0 0, .func (.func gf) #[] lb, .pointer (some ⟨w.heap.size, 0, none⟩), undef, .slice none 0 0, .int .i64 x, .func (.func gf) #[] lb, .int .i64 x, undef, undef, undef, undef, undef], defers := [] }) ?assign ?body ?done ?stop
  case assign =>
    intro l x W K hK
    gi_wp2
    exact hK
  case body =>
    rintro l pre x W ⟨⟨v, hv, hrow, -⟩, hB⟩ hlen
    have hc := hv.cell
    have hle := hB.size
    have hl2 : pre.length + 1 ≤ maxLen := by unfold maxLen; omega
    gi_wp2_with (first | (gi_at_builtin; refine wpListIn_append_at _ rfl _ _ 152 rfl w.heap.size 3 i0 (.int .i64 0) 1 8 Tryz.underlying152 hi hz0 hz1 hz2 rfl (by decide) _ _ _ rfl (hrow.alloc _) ⟨W.heap.size, 0, none⟩ 1 1 [.int .i64 x] rfl rfl (cell_one_new _ _ _) (by simp [Value.oneCell']) hl2 (by omega) (by simp; omega) ?_; intro v' w1 hown' hgrow _ hat; obtain ⟨g', cap', rfl⟩ := ownsRow_succ hown'; obtain ⟨hv1, hv2, hr2, hk2, hb2⟩ := hv.appended (by decide) hrow hle (Nat.le_refl _) hown' hgrow; have hc1 := hv1.cell; have hf1 := hv1.frozen) | gi_in)
    refine ⟨hk2, ⟨hk2.walks, fun k cs t fz hk hb hr => ?_, fun k hk => ?_⟩, ⟨_, hv2, by simpa using hr2, by simp⟩, hB.trans hb2⟩
    · refine (Below.heap_setCell _ _ _ k hb).trans ((hgrow.block k (by have := blk_lt hk; simp; omega) (fun e => hr ?_)).trans (blk_old hk _))
      rcases hrow.2 with ⟨rfl, _⟩ | ⟨g, cap, cur, rfl, _⟩
      · cases e
      · cases e
        exact ⟨_, _, _, hc, rfl⟩
    · have := InRow.iff_slice hv2.cell k hk
      rcases hat with hat | hat
      · left
        rw [hat] at this
        rcases hrow.2 with ⟨rfl, _⟩ | ⟨g, cap, cur, rfl, _⟩
        · cases this
        · cases this
          exact ⟨_, _, _, hc, rfl⟩
      · right
        rw [hat] at this
        cases this
        simp
  case done =>
    rintro D ys W hD hS ⟨⟨v, hv, hrow, hnil⟩, hB⟩ hK
    have hc := hv.cell
    go_wp2
    refine ⟨by simp, .inl ⟨_, _, rfl, run_takeDeferred hK, ?_⟩⟩
    exact ⟨_, results_tmp rfl _ _ _, v, ys, rfl, hS, ownsRow_putObj hrow _ hK rfl, hnil, hB.trans (belowK_b (w := w) (Nat.le_refl _) W D _ _ (by omega) hK rfl rfl)⟩
  case stop =>
    rintro D c pre W _ _ h _
    exact h.elim

set_option maxHeartbeats 400000 in
theorem collect_gen {gf : Nat} {lb : Array Value} {S : List Int → Prop} {N : Nat} (hN : N ≤ 1000000) (w : World) (eg : ∀ args w, (Go.callFunc gf args).run Tryz.prog w = .ok (.enter gf args) w)
    (hseq : SeqStopsK Fence.wide 8 Tryz.prog gf lb (fun x : Int => #[Value.int .i64 x]) (ApKp w.heap.size) S (fun _ => True) N (w.alloc (.cells #[.slice none 0 0] 152))) :
    Calls Tryz.prog 102 #[.func (.func gf) #[] lb] w fun e w' => ∃ (v : Value) (ss : List Int), e = .returned v ∧ S ss ∧
      w'.ownsRow w.heap.size 3 1 v ss.length (ss.map (Value.int .i64)) ∧ (v = .slice none 0 0 ↔ ss = []) ∧ Below w.heap.size w w' := by
  have HS := Lib.hid hseq
  clear hseq
  go_enter Tryz.func102, Tryz.ntmps102
  go_wp2_with fail
  refine (appendseq_gen hN w eg HS.out).mono ?_
  rintro e w1 ⟨v, ss, rfl, h1, h2, h3, h4⟩
  go_wp2_with fail
  go_ret
  exact ⟨v, ss, rfl, h1, h2, h3, h4⟩
end Go.Proofs.YtjjphcnoegaimaaGreat

namespace Go.Proofs.YtjjphcnoegaimaaGreat
open Go.RowKit Go.Shelf Go.Maps
attribute [local go_sem] Oper.semAt_some

set_option maxRecDepth 100000 in
set_option maxHeartbeats 1000000 in
theorem keys1_in (n l Bm b : Nat) (hn : 1 ≤ n) (L : List (Int × Value)) (J Jx : List Int → World → Prop)
    (hY : ∀ pre x W, J pre W → pre.length < L.length → YieldAt Fence.wide (n - 1) Tryz.prog l #[.int .i64 x] W fun e W' =>
      (e = .returned (.bool true) ∧ J (pre ++ [x]) W' ∧ KeepsWalks W W') ∨ (e = .returned (.bool false) ∧ Jx (pre ++ [x]) W'))
    (W : World) (hJ : AbidesFrom W.heap.size J) (hm : W.cell? ⟨Bm, 0, none⟩ = some (.map (some b))) (hmap : MapS W b .i64 L) (hL : L.length ≤ maxLen) (h0 : J [] W) :
    CallsIn Fence.wide n Tryz.prog 111 #[.func (.yield l) #[] #[], .pointer (some ⟨Bm, 0, none⟩)] W fun e W' => (∃ v, e = .returned v) ∧
      ((∃ ss : List Int, ss.Perm (L.map Prod.fst) ∧ J ss W') ∨ (∃ pre : List Int, True ∧ Jx pre W')) := by
  obtain ⟨D0, hown, hD⟩ := hmap.owns Tryz.underlying3 hL
  have hnd := hmap.nodup
  have HN := Lib.hid hnd
  have HD := Lib.hid hD
  have HL : (L.map Prod.fst).length = L.length := by simp
  clear hmap hnd hD
  refine callsIn_of_wp Tryz.func111 rfl trivial ?_ rfl
  simp only [Tryz.ntmps111, List.size_toArray, List.length_cons, List.length_nil, Nat.reduceAdd, Nat.reduceSub, Array.replicate_succ, Array.replicate_zero, List.push_toArray, List.append_toArray, List.nil_append, List.cons_append]
  gi_wp2_with (first | (gi_at_range; refine wpListIn_range_own _ rfl _ 114 rfl 3 124 (int_keyed Tryz.underlying3) Tryz.underlying114 anyR b L.length _ rfl hown ?_; intro w0 hrg0 hg0 hs0) | gi_in)
  go_frame
  gi_loopw [3] (fun _ wr => ∃ (left : Lit → Bool) (cnt : Nat) (ss : List Int), wr.ranges Tryz.prog 3 anyR b W.heap.size L.length D0 left cnt ∧ Came .i64 D0 left ss ∧ J ss wr)
    (fun _ wr => wr.rangeLeft b W.heap.size)
  case atStart => exact ⟨_, _, [], hrg0, Came.start .i64 D0, hJ [] W w0 none h0 hg0 (fun r e => by cases e)⟩
  case round =>
    obtain ⟨left, cnt, ss, hrg, hC, hJs⟩ := hrel
    gi_wp2_with (first | (gi_at_next; refine wpListIn_next_ranges _ rfl _ rfl 3 (int_keyed Tryz.underlying3) anyR (Value.int .i64) id (fun key kl hk => by obtain ⟨x, hx, _⟩ := keyOf_q Tryz.underlying3 hk; exact ⟨x, hx⟩) (fun v _ _ => ⟨v, rfl⟩) b W.heap.size L.length _ _ _ rfl hrg ?_ ?_) | gi_in)
    · intro hc0 hl0
      gi_wp2
      go_end0
      exact ⟨⟨_, rfl⟩, .inl ⟨ss, hC.perm HN.out HD.out hl0, hJs⟩⟩
    · intro x c kl yd yp w2 cnt2 hkey hlk hv hat hrg2 hlt hg2 hs2 hen
      obtain ⟨x', ex, rfl, _⟩ := keyOf_q Tryz.underlying3 hkey
      obtain rfl : x = x' := by simpa using ex
      have hJ2 : J ss w2 := hJ ss wr w2 (some W.heap.size) hJs hg2 (fun r e => by cases e; exact ⟨Nat.le_refl _, hrg.iter_walk⟩)
      have hC2 := hC.step hlk hat
      have hl2 := hC2.len HD.out
      have hl3 : ss.length < L.length := by simp at hl2; omega
      obtain ⟨fn, tmps, assign, body, hy, hR⟩ := hY ss x w2 hJ2 hl3
      clear hs2 hl2
      gi_wp2
      refine hR.mono ?_
      rintro e W3 (⟨rfl, hJ3, hk3⟩ | ⟨rfl, hJx3⟩)
      · gi_wp2
        have hrg3 := hrg2.of_walks hk3
        go_roundw
        case rel => exact ⟨_, cnt2, ss ++ [x], hrg3, hC2, hJ3⟩
        case measure => rw [hrg3.left_eq, hrg.left_eq]; exact hlt
      · gi_wp2
        refine bodyPost_ret (results_none rfl _ _ _) rfl ?_
        exact ⟨⟨_, rfl⟩, .inr ⟨_, trivial, hJx3⟩⟩

theorem keys_in (n : Nat) (mb : Option Nat) (w : World) :
    CallsIn Fence.wide n Tryz.prog 83 #[.map mb] w fun e w' => e = .returned (.func (.func 111) #[] #[.pointer (some ⟨w.heap.size, 0, none⟩)]) ∧ w.alloc (.cells #[.map mb] 114) = w' := by
  refine callsIn_of_wp Tryz.func83 rfl trivial ?_ rfl
  simp only [Tryz.ntmps83, List.size_toArray, List.length_cons, List.length_nil, Nat.reduceAdd, Nat.reduceSub, Array.replicate_succ, Array.replicate_zero, List.push_toArray, List.append_toArray, List.nil_append, List.cons_append]
  gi_wp2
  go_ret
  exact ⟨rfl, rfl⟩

theorem keys_stops (n : Nat) (hn : 1 ≤ n) (Bm b B : Nat) (L : List (Int × Value)) (hL : L.length ≤ maxLen) (w : World) (hBm : Bm < w.heap.size)
    (hm : w.cell? ⟨Bm, 0, none⟩ = some (.map (some b))) (hmap : MapS w b .i64 L) :
    SeqStopsK Fence.wide n Tryz.prog 111 #[.pointer (some ⟨Bm, 0, none⟩)] (fun x : Int => #[Value.int .i64 x]) (ApKp B) (fun ss => ss.Perm (L.map Prod.fst)) (fun _ => True) L.length w :=
  fun l J Jx W hW hJ _ hY h0 => keys1_in n l Bm b hn L J Jx (fun pre x W1 h1 h2 => YieldAt.mono (hY pre x W1 h1 h2) (fun _ _ h => h.imp (fun ⟨a, b, c⟩ => ⟨a, b, c.walks⟩) id)) W hJ ((hW.cell (p := ⟨Bm, 0, none⟩) hBm).trans hm) (hmap.of_block (hW.block b hmap.lt)) hL h0

set_option maxHeartbeats 1000000 in
/-- slices.Sorted(seq). -/
theorem sorted_gen {gf : Nat} {lb : Array Value} {K : List Int} {N : Nat} (hN : N ≤ 1000000) (hK : K.length ≤ 1000000) (w : World) (eg : ∀ args w, (Go.callFunc gf args).run Tryz.prog w = .ok (.enter gf args) w)
    (hseq : SeqStopsK Fence.wide 8 Tryz.prog gf lb (fun x : Int => #[Value.int .i64 x]) (ApKp w.heap.size) (fun ss => ss.Perm K) (fun _ => True) N (w.alloc (.cells #[.slice none 0 0] 152))) :
    Calls Tryz.prog 73 #[.func (.func gf) #[] lb] w fun e w' => ∃ (v : Value) (ts : List Int), e = .returned v ∧ ts = K.mergeSort (fun x y => decide (x ≤ y)) ∧
      w'.ownsRow w.heap.size 3 1 v ts.length (ts.map (Value.int .i64)) ∧ Below w.heap.size w w' := by
  have HS := Lib.hid hseq
  clear hseq
  go_enter Tryz.func73, Tryz.ntmps73
  go_wp2_with fail
  refine (collect_gen hN w eg HS.out).mono ?_
  rintro e w1 ⟨v, ss, rfl, hp, hrow, hnil, hB⟩
  have hlen : ss.length ≤ 1000000 := by rw [hp.length_eq]; exact hK
  have hms : K.mergeSort (fun x y => decide (x ≤ y)) = ss.mergeSort (fun x y => decide (x ≤ y)) := (mergeSort_of_perm_i hp).symm
  have HM := Lib.hid hms
  clear hms
  rcases hrow.2 with ⟨rfl, h0⟩ | ⟨g, cap, cur, rfl, hg, hb, r1, r2, r3, r4⟩
  · obtain rfl : ss = [] := List.eq_nil_of_length_eq_zero h0
    go_wp2_with fail
    refine (Tryz.slices_Sort_int_none none 0 w1).mono ?_
    rintro e w2 ⟨rfl, rfl⟩
    go_wp2_with fail
    go_ret
    exact ⟨_, [], rfl, by rw [HM.out]; simp, hrow, hB⟩
  · have hH := holds_of_block_i hb (by simpa using r4)
    have hgl := blk_lt hb
    have hS := Tryz.slices_Sort_int g 0 cap ss w1 hH hgl (by omega)
    have HS2 := Lib.hid hS
    have HR := Lib.hid r3
    clear hS hH hrow r3 r4
    have HB := Lib.hid hb
    clear hb
    go_wp2_with fail
    refine HS2.out.mono ?_
    rintro e w2 ⟨rfl, n, os, rfl⟩
    go_wp2_with fail
    go_ret
    have e1 : (ss.mergeSort (fun x y => decide (x ≤ y))).length = ss.length := List.length_mergeSort _
    refine ⟨_, _, rfl, HM.out.symm, ?_, hB.grown (grownBy_sorted_i _) hB.size (fun j hj => by cases hj; exact hg)⟩
    rw [e1]
    exact ownsRow_sorted_i e1 hg HB.out r1 r2 HR.out
end Go.Proofs.YtjjphcnoegaimaaGreat
