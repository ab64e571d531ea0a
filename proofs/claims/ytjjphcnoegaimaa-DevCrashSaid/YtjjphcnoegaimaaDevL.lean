/- package dev: the sectors that have cached writes: loose and its iterator, Loose. -/
import Derived.Test.YtjjphcnoegaimaaDevK
namespace Go.Proofs.Ytjjphcnoegaimaa
open Go.RowKit Go.Shelf Go.Maps
attribute [local go_sem] Oper.semAt_some
set_option maxRecDepth 20000

/-- The sectors that have cached writes, rising. -/
def looseOf (s : DS) : List Int := ((List.range s.hard.length).map (fun i : Nat => (i : Int))).filter (fun i => decide (s.rows i ≠ []))
theorem mem_looseOf {s : DS} {i : Int} : i ∈ looseOf s ↔ (0 ≤ i ∧ i < s.hard.length) ∧ s.rows i ≠ [] := by
  simp only [looseOf, List.mem_filter, List.mem_map, List.mem_range, decide_eq_true_eq]
  constructor
  · rintro ⟨⟨a, h, rfl⟩, h2⟩
    exact ⟨⟨by omega, by exact_mod_cast h⟩, h2⟩
  · rintro ⟨⟨h0, h1⟩, h2⟩
    exact ⟨⟨i.toNat, by omega, by omega⟩, h2⟩
theorem looseOf_sorted (s : DS) : (looseOf s).Pairwise (· < ·) := by
  refine List.Pairwise.filter _ ?_
  rw [List.pairwise_map]
  exact (List.pairwise_lt_range).imp (fun h => by exact_mod_cast h)
theorem looseOf_length (s : DS) : (looseOf s).length ≤ s.hard.length := by
  refine Nat.le_trans (List.length_filter_le _ _) ?_
  simp
theorem DevAt.keys {W : World} {p hb hc m : Nat} {L : List (Int × Value)} {s : DS} (h : DevAt W p hb hc m L s) : (L.map Prod.fst).mergeSort (fun x y => decide (x ≤ y)) = looseOf s := by
  have hm : ∀ i, i ∈ L.map Prod.fst ↔ i ∈ looseOf s := by
    intro i
    rw [mem_looseOf]
    constructor
    · intro hi
      obtain ⟨x, hx, rfl⟩ := List.mem_map.1 hi
      refine ⟨h.range x hx, ?_⟩
      obtain ⟨g, c, _, _, h2, _⟩ := h.rows x hx
      exact h2
    · rintro ⟨_, h2⟩
      by_cases hi : i ∈ L.map Prod.fst
      · exact hi
      · exact absurd (h.norow i hi) h2
  have hnd2 : (looseOf s).Nodup := (looseOf_sorted s).imp (fun h e => by omega)
  have hp : (L.map Prod.fst).Perm (looseOf s) := (List.perm_ext_iff_of_nodup h.map.nodup hnd2).2 hm
  have hs1 : ((L.map Prod.fst).mergeSort (fun x y => decide (x ≤ y))).Pairwise (· ≤ ·) := by
    have := List.pairwise_mergeSort (le := fun x y : Int => decide (x ≤ y)) (by intro a b c; simp; omega) (by intro a b; simp; omega) (L.map Prod.fst)
    exact this.imp (by intro a b; simp)
  have hs2 : (looseOf s).Pairwise (· ≤ ·) := (looseOf_sorted s).imp (fun h => by omega)
  refine List.Perm.eq_of_pairwise (fun a b _ _ h1 h2 => by omega) hs1 hs2 ((List.mergeSort_perm _ _).trans hp)

set_option maxHeartbeats 2000000 in
theorem loose1_in {α : Type} (val : α → Int) (n l B1 : Nat) (hn : 1 ≤ n) {p : Nat} {F : Nat → Prop} {s : DS} (ys : List α) (hys : ys.map val = looseOf s) (J Jx : List α → World → Prop) (Kp : World → World → Prop) (Q : World → Nat → Prop)
    (hKp : ∀ W1 W' g, Kp W1 W' → Q W1 g → Q W' g ∧ W'.heap[g]? = W1.heap[g]?)
    (hY : ∀ pre x W, J pre W → pre.length < ys.length → YieldAt Fence.wide (n - 1) Try.prog l #[.int .i64 (val x)] W fun e W' =>
      (e = .returned (.bool true) ∧ J (pre ++ [x]) W' ∧ Kp W W') ∨ (e = .returned (.bool false) ∧ Jx (pre ++ [x]) W'))
    (W : World) (hJ : AbidesFrom W.heap.size J) (h : Dv W p F s) (h1 : W.heap[B1]? = some (.cells #[.pointer (some ⟨p, 0, none⟩)] 25 (0, 0)))
    (hQ0 : ∀ W' g cur, Below W.heap.size W W' → W.heap.size ≤ g → W'.heap[g]? = some (.cells cur 3 (0, 0)) → Q W' g) (h0 : J [] W) :
    CallsIn Fence.wide n Try.prog 86 #[.func (.yield l) #[] #[], .pointer (some ⟨B1, 0, none⟩)] W fun e W' => (∃ v, e = .returned v) ∧
      ((∃ zs, zs = ys ∧ J zs W') ∨ (∃ pre, True ∧ Jx pre W')) := by
  obtain ⟨hb, hc, m, L, h, hF⟩ := h
  have c1 : W.cell? ⟨B1, 0, none⟩ = some (.pointer (some ⟨p, 0, none⟩)) := cl_of h1 0
  have c4 : W.cell? ⟨p, 4, none⟩ = some (.map (some m)) := cl_of h.obj 4
  have hkeys := h.keys
  have hll := looseOf_length s
  have hpos := h.pos
  have hyl : ys.length = (looseOf s).length := by rw [← hys]; simp
  refine callsIn_of_wp Try.func86 rfl trivial ?_ rfl
  simp only [Try.ntmps86, List.size_toArray, List.length_cons, List.length_nil, Nat.reduceAdd, Nat.reduceSub, Array.replicate_succ, Array.replicate_zero, List.push_toArray, List.append_toArray, List.nil_append, List.cons_append]
  gi_wp2
  refine ⟨trivial, (keys_in (n - 1) (some m) W).mono ?_⟩
  rintro e w1 ⟨rfl, hw1⟩
  have B1w : Below W.heap.size W w1 := by rw [← hw1]; exact bnew _ _
  have hd1 := h.below B1w
  have hk1 : w1.cell? ⟨W.heap.size, 0, none⟩ = some (.map (some m)) := by rw [← hw1]; exact cl_of (hp_new W _ rfl) 0
  have hs1 : w1.heap.size = W.heap.size + 1 := by rw [← hw1]; simp
  have hLn : L.length = (looseOf s).length := by rw [← hkeys]; simp
  have HK := Lib.hid hkeys
  have HY := Lib.hid hys
  have HLn := Lib.hid hLn
  have HYl := Lib.hid hyl
  have HQ := Lib.hid hQ0
  have HS1 := Lib.hid hs1
  clear hw1 hkeys hys hLn hyl hQ0 hs1
  have B2 : Below w1.heap.size w1 (w1.alloc (.cells #[.slice none 0 0] 38)) := bnew _ _
  have hsort := sorted_gen (gf := 105) (lb := #[.pointer (some ⟨W.heap.size, 0, none⟩)]) (K := L.map Prod.fst) (N := L.length) (by rw [HLn.out]; omega) (by rw [List.length_map, HLn.out]; omega) w1 (fun _ _ => by rfl)
    (keys_stops 8 (by decide) W.heap.size m w1.heap.size L (by rw [HLn.out]; unfold maxLen; omega) _ (by have := B2.size; have := HS1.out; omega) ((B2.cell (p := ⟨W.heap.size, 0, none⟩) (by have := HS1.out; show W.heap.size < w1.heap.size; omega)).trans hk1) (hd1.map.of_block (B2.block m hd1.map.lt)))
  gi_wp2
  refine ⟨trivial, ((callsIn_wide (n := n - 1)).2 hsort).mono ?_⟩
  rintro e w2 ⟨v, ts, rfl, hts, hrow, hB2⟩
  rw [HK.out] at hts
  have hB : Below W.heap.size W w2 := bt B1w hB2
  have hJ2 : J [] w2 := hJ [] W w2 none h0 ⟨hB.os, hB.tape, hB.output, hB.size, fun k hk _ => hB.block k hk⟩ (fun r e => by cases e)
  clear hsort
  subst hts
  rcases hrow.2 with ⟨rfl, hz⟩ | ⟨g, cap, cur, rfl, hg0, hgb, hr⟩
  · have hy0 : ys = [] := List.eq_nil_of_length_eq_zero (by rw [HYl.out]; exact hz)
    subst hy0
    gi_wp2
    gi_loopw [12] (fun i wr => i = .int .i64 0 ∧ J [] wr) (fun _ _ => 0)
    case atStart => exact ⟨rfl, hJ2⟩
    case round =>
      obtain ⟨rfl, hJs⟩ := hrel
      gi_wp2
      go_end0
      exact ⟨⟨_, rfl⟩, .inl ⟨[], rfl, hJs⟩⟩
  · have hq2 : Q w2 g := HQ.out w2 g cur hB (by have := HS1.out; omega) hgb
    clear hr
    generalize hN : (looseOf s).length = N at *
    have HN := Lib.hid hN
    clear hN
    gi_wp2
    gi_loopw [12] (fun i wr => ∃ k : Nat, k ≤ N ∧ i = .int .i64 k ∧ J (ys.take k) wr ∧ wr.heap[g]? = w2.heap[g]? ∧ Q wr g) (fun i _ => N - (intOf i).toNat)
    case atStart => exact ⟨0, Nat.zero_le _, rfl, by simpa using hJ2, rfl, hq2⟩
    case round =>
      obtain ⟨k, hk, rfl, hJs, hgr, hqr⟩ := hrel
      by_cases hlt : k < N
      · have hky : k < ys.length := by rw [HYl.out]; exact hlt
        have hkl : k < (looseOf s).length := by rw [HN.out]; exact hlt
        have hval : (looseOf s)[k]? = some (val ys[k]) := by
          rw [← HY.out, List.getElem?_map, List.getElem?_eq_getElem hky]
          rfl
        have hrow' := ownsRow_of_block (W' := wr) (ownsRow_base hrow) (fun k hk => by cases hk; exact hgr)
        have q0 : wr.cell? ⟨g, k, none⟩ = some (.int .i64 (val ys[k])) := ownsRow_cell hrow' rfl (by rw [List.getElem?_map, hval]; rfl)
        have htk : ys.take (k + 1) = ys.take k ++ [ys[k]] := List.take_succ_eq_append_getElem hky
        have hJk : (ys.take k).length < ys.length := by rw [List.length_take]; omega
        have hgl : g < wr.heap.size := ownsRow_lt hrow' rfl
        generalize ys[k] = x at *
        have HT := Lib.hid htk
        have HV := Lib.hid hval
        obtain ⟨fn, tmps, assign, body, hy, hR⟩ := hY _ x _ hJs hJk
        clear htk hval hrow' hky hkl hJk
        gi_wp2
        refine hR.mono ?_
        rintro e W3 (⟨rfl, hJ3, hk3⟩ | ⟨rfl, hJx3⟩)
        · have hnx := hKp _ _ g hk3 hqr
          gi_wp2
          go_roundw
          case rel => exact ⟨k + 1, by omega, by go_num, by rw [HT.out]; exact hJ3, hnx.2.trans hgr, hnx.1⟩
          case measure => simp [intOf]; omega
        · gi_wp2
          refine bodyPost_ret (results_none rfl _ _ _) rfl ?_
          exact ⟨⟨_, rfl⟩, .inr ⟨_, trivial, hJx3⟩⟩
      · obtain rfl : k = N := by omega
        gi_wp2
        go_end0
        exact ⟨⟨_, rfl⟩, .inl ⟨_, rfl, by rw [List.take_of_length_le (by rw [HYl.out]; exact Nat.le_refl _)] at hJs; exact hJs⟩⟩

set_option maxHeartbeats 400000 in
theorem dev_looser (p : Nat) (w : World) : Calls Try.prog 64 #[.pointer (some ⟨p, 0, none⟩)] w fun e w' => e = .returned (.func (.func 86) #[] #[.pointer (some ⟨w.heap.size, 0, none⟩)]) ∧ w.alloc (.cells #[.pointer (some ⟨p, 0, none⟩)] 25) = w' := by
  go_enter Try.func64, Try.ntmps64
  go_wp2_with fail
  go_ret
  exact ⟨rfl, rfl⟩

/-- The iterator's contract over any numbering of the sectors, for any body that keeps its row. -/
theorem loose_stops {α : Type} (val : α → Int) (n B1 : Nat) (hn : 1 ≤ n) {p : Nat} {F : Nat → Prop} {s : DS} (ys : List α) (hys : ys.map val = looseOf s) (Kp : World → World → Prop) (Q : World → Nat → Prop)
    (hKp : ∀ W1 W' g, Kp W1 W' → Q W1 g → Q W' g ∧ W'.heap[g]? = W1.heap[g]?) (w : World) (h : Dv w p F s) (h1 : w.heap[B1]? = some (.cells #[.pointer (some ⟨p, 0, none⟩)] 25 (0, 0)))
    (hQ0 : ∀ W' g cur, Below w.heap.size w W' → w.heap.size ≤ g → W'.heap[g]? = some (.cells cur 3 (0, 0)) → Q W' g) :
    SeqStopsK Fence.wide n Try.prog 86 #[.pointer (some ⟨B1, 0, none⟩)] (fun x : α => #[Value.int .i64 (val x)]) Kp (fun zs => zs = ys) (fun _ => True) ys.length w :=
  fun l J Jx W hW hJ _ hY h0 => loose1_in val n l B1 hn ys hys J Jx Kp Q hKp hY W hJ (h.below hW) ((hW.block B1 (blk_lt h1)).trans h1) (fun W' g cur hB hg hc => hQ0 W' g cur (hW.trans (hB.mono hW.size)) (Nat.le_trans hW.size hg) hc) h0

set_option maxHeartbeats 1000000 in
theorem dev_loose {w : World} {p : Nat} {F : Nat → Prop} {s : DS} (h : Dv w p F s) :
    Calls Try.prog 21 #[.pointer (some ⟨p, 0, none⟩)] w fun e w' => ∃ v, e = .returned v ∧ w'.ownsRow w.heap.size 3 1 v (looseOf s).length ((looseOf s).map (Value.int .i64)) ∧ (v = .slice none 0 0 ↔ looseOf s = []) ∧ Below w.heap.size w w' := by
  have hlen : (looseOf s).length ≤ 1000000 := by
    obtain ⟨hb, hc, m, L, h, -⟩ := h
    have := looseOf_length s
    have := h.pos
    omega
  have HL := Lib.hid hlen
  clear hlen
  go_enter Try.func21, Try.ntmps21
  go_wp2_with fail
  refine (dev_looser p w).mono ?_
  rintro e w1 ⟨rfl, hw1⟩
  have B1 : Below w.heap.size w w1 := by rw [← hw1]; exact bnew _ _
  have hbx : w1.heap[w.heap.size]? = some (.cells #[.pointer (some ⟨p, 0, none⟩)] 25 (0, 0)) := by rw [← hw1]; exact hp_new _ _ rfl
  have h1 := h.below B1
  clear hw1
  have B2 : Below w1.heap.size w1 (w1.alloc (.cells #[.slice none 0 0] 38)) := bnew _ _
  have hc0 : (w1.alloc (.cells #[.slice none 0 0] 38)).cell? ⟨w1.heap.size, 0, none⟩ = some (.slice none 0 0) := cl_of (hp_new w1 _ rfl) 0
  have hcol := collect_gen (gf := 86) (lb := #[.pointer (some ⟨w.heap.size, 0, none⟩)]) (S := fun zs => zs = looseOf s) (N := (looseOf s).length) HL.out w1 (fun _ _ => by rfl)
    (loose_stops (fun x : Int => x) 8 w.heap.size (by decide) (looseOf s) (by simp) (ApKp w1.heap.size) (fun W k => k ≠ w1.heap.size ∧ ¬ InRow W w1.heap.size k ∧ ∃ cs, W.heap[k]? = some (.cells cs 3 (0, 0)))
      (fun W1 W' g hk ⟨q1, q2, cs, q3⟩ => by
        have hs := hk.same g cs _ _ q3 q1 q2
        refine ⟨⟨q1, fun e => ?_, cs, hs⟩, hs.trans q3.symm⟩
        rcases hk.row g e with e | e
        · exact q2 e
        · have := blk_lt q3; omega)
      _ (h1.below B2) ((B2.block _ (blk_lt hbx)).trans hbx)
      (fun W' g cur hB hg hc => by
        have hsz : (w1.alloc (.cells #[.slice none 0 0] 38)).heap.size = w1.heap.size + 1 := by simp
        refine ⟨by omega, fun e => ?_, cur, hc⟩
        have hcc := hB.cell (p := ⟨w1.heap.size, 0, none⟩) (by show w1.heap.size < _; omega)
        rw [hc0] at hcc
        have := InRow.iff_slice hcc g e
        cases this))
  have HC := Lib.hid hcol
  clear hcol hc0
  go_wp2_with fail
  refine HC.out.mono ?_
  rintro e w2 ⟨v, ss, rfl, rfl, hr, hn, hB⟩
  go_wp2_with fail
  go_ret
  refine ⟨v, rfl, ?_, hn, bt B1 hB⟩
  obtain ⟨r1, r2⟩ := hr
  refine ⟨r1, ?_⟩
  rcases r2 with r2 | ⟨g, c, cur, e, h0, r3⟩
  · exact .inl r2
  · exact .inr ⟨g, c, cur, e, Nat.le_trans B1.size h0, r3⟩
end Go.Proofs.Ytjjphcnoegaimaa
