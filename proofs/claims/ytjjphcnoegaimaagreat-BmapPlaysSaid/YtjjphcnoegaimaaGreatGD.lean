/- package dev: the sectors that have cached writes: loose and its iterator, Loose. package dev: Flush. -/
import Derived.Test.YtjjphcnoegaimaaGreatDevK
import Derived.Test.YtjjphcnoegaimaaGreatGA
namespace Go.Proofs.YtjjphcnoegaimaaGreat
open Go.RowKit Go.Shelf Go.Maps
attribute [local go_sem] Oper.semAt_some
set_option maxRecDepth 20000

/-- The sectors that have cached writes, rising. -/
def looseOf (s : DS) : List Int := ((List.range s.hard.length).map (fun i : Nat => (i : Int))).filter (fun i => decide (s.rows i ≠ []))
theorem mem_looseOf {s : DS} {i : Int} : i ∈ looseOf s ↔ (0 ≤ i ∧ i < s.hard.length) ∧ s.rows i ≠ [] := by
  simp only [looseOf, List.mem_filter, List.mem_map, List.mem_range, decide_eq_true_eq]
  constructor
  · rintro ⟨⟨a, h, rfl⟩, h2⟩
    exact ⟨⟨by omega, by exact_mod_cast h⟩, h2⟩
  · rintro ⟨⟨h0, h1⟩, h2⟩
    exact ⟨⟨i.toNat, by omega, by omega⟩, h2⟩
theorem looseOf_sorted (s : DS) : (looseOf s).Pairwise (· < ·) := by
  refine List.Pairwise.filter _ ?_
  rw [List.pairwise_map]
  exact (List.pairwise_lt_range).imp (fun h => by exact_mod_cast h)
theorem looseOf_length (s : DS) : (looseOf s).length ≤ s.hard.length := by
  refine Nat.le_trans (List.length_filter_le _ _) ?_
  simp
theorem DevAt.keys {W : World} {p hb hc m : Nat} {L : List (Int × Value)} {s : DS} (h : DevAt W p hb hc m L s) : (L.map Prod.fst).mergeSort (fun x y => decide (x ≤ y)) = looseOf s := by
  have hm : ∀ i, i ∈ L.map Prod.fst ↔ i ∈ looseOf s := by
    intro i
    rw [mem_looseOf]
    constructor
    · intro hi
      obtain ⟨x, hx, rfl⟩ := List.mem_map.1 hi
      refine ⟨h.range x hx, ?_⟩
      obtain ⟨g, c, _, _, h2, _⟩ := h.rows x hx
      exact h2
    · rintro ⟨_, h2⟩
      by_cases hi : i ∈ L.map Prod.fst
      · exact hi
      · exact absurd (h.norow i hi) h2
  have hnd2 : (looseOf s).Nodup := (looseOf_sorted s).imp (fun h e => by omega)
  have hp : (L.map Prod.fst).Perm (looseOf s) := (List.perm_ext_iff_of_nodup h.map.nodup hnd2).2 hm
  have hs1 : ((L.map Prod.fst).mergeSort (fun x y => decide (x ≤ y))).Pairwise (· ≤ ·) := by
    have := List.pairwise_mergeSort (le := fun x y : Int => decide (x ≤ y)) (by intro a b c; simp; omega) (by intro a b; simp; omega) (L.map Prod.fst)
    exact this.imp (by intro a b; simp)
  have hs2 : (looseOf s).Pairwise (· ≤ ·) := (looseOf_sorted s).imp (fun h => by omega)
  refine List.Perm.eq_of_pairwise (fun a b _ _ h1 h2 => by omega) hs1 hs2 ((List.mergeSort_perm _ _).trans hp)

set_option maxHeartbeats 2000000 in
theorem loose1_in {α : Type} (val : α → Int) (n l B1 : Nat) (hn : 1 ≤ n) {p : Nat} {F : Nat → Prop} {s : DS} (ys : List α) (hys : ys.map val = looseOf s) (J Jx : List α → World → Prop) (Kp : World → World → Prop) (Q : World → Nat → Prop)
    (hKp : ∀ W1 W' g, Kp W1 W' → Q W1 g → Q W' g ∧ W'.heap[g]? = W1.heap[g]?)
    (hY : ∀ pre x W, J pre W → pre.length < ys.length → YieldAt Fence.wide (n - 1) Tryz.prog l #[.int .i64 (val x)] W fun e W' =>
      (e = .returned (.bool true) ∧ J (pre ++ [x]) W' ∧ Kp W W') ∨ (e = .returned (.bool false) ∧ Jx (pre ++ [x]) W'))
    (W : World) (hJ : AbidesFrom W.heap.size J) (h : Dv W p F s) (h1 : W.heap[B1]? = some (.cells #[.pointer (some ⟨p, 0, none⟩)] 25 (0, 0)))
    (hQ0 : ∀ W' g cur, Below W.heap.size W W' → W.heap.size ≤ g → W'.heap[g]? = some (.cells cur 3 (0, 0)) → Q W' g) (h0 : J [] W) :
    CallsIn Fence.wide n Tryz.prog 82 #[.func (.yield l) #[] #[], .pointer (some ⟨B1, 0, none⟩)] W fun e W' => (∃ v, e = .returned v) ∧
      ((∃ zs, zs = ys ∧ J zs W') ∨ (∃ pre, True ∧ Jx pre W')) := by
  obtain ⟨hb, hc, m, L, h, hF⟩ := h
  have c1 : W.cell? ⟨B1, 0, none⟩ = some (.pointer (some ⟨p, 0, none⟩)) := cl_of h1 0
  have c4 : W.cell? ⟨p, 4, none⟩ = some (.map (some m)) := cl_of h.obj 4
  have hkeys := h.keys
  have hll := looseOf_length s
  have hpos := h.pos
  have hyl : ys.length = (looseOf s).length := by rw [← hys]; simp
  refine callsIn_of_wp Tryz.func82 rfl trivial ?_ rfl
  simp only [Tryz.ntmps82, List.size_toArray, List.length_cons, List.length_nil, Nat.reduceAdd, Nat.reduceSub, Array.replicate_succ, Array.replicate_zero, List.push_toArray, List.append_toArray, List.nil_append, List.cons_append]
  gi_wp2
  refine ⟨trivial, (keys_in (n - 1) (some m) W).mono ?_⟩
  rintro e w1 ⟨rfl, hw1⟩
  have B1w : Below W.heap.size W w1 := by rw [← hw1]; exact bnew _ _
  have hd1 := h.below B1w
  have hk1 : w1.cell? ⟨W.heap.size, 0, none⟩ = some (.map (some m)) := by rw [← hw1]; exact cl_of (hp_new W _ rfl) 0
  have hs1 : w1.heap.size = W.heap.size + 1 := by rw [← hw1]; simp
  have hLn : L.length = (looseOf s).length := by rw [← hkeys]; simp
  have HK := Lib.hid hkeys
  have HY := Lib.hid hys
  have HLn := Lib.hid hLn
  have HYl := Lib.hid hyl
  have HQ := Lib.hid hQ0
  have HS1 := Lib.hid hs1
  clear hw1 hkeys hys hLn hyl hQ0 hs1
  have B2 : Below w1.heap.size w1 (w1.alloc (.cells #[.slice none 0 0] 152)) := bnew _ _
  have hsort := sorted_gen (gf := 111) (lb := #[.pointer (some ⟨W.heap.size, 0, none⟩)]) (K := L.map Prod.fst) (N := L.length) (by rw [HLn.out]; omega) (by rw [List.length_map, HLn.out]; omega) w1 (fun _ _ => by rfl)
    (keys_stops 8 (by decide) W.heap.size m w1.heap.size L (by rw [HLn.out]; unfold maxLen; omega) _ (by have := B2.size; have := HS1.out; omega) ((B2.cell (p := ⟨W.heap.size, 0, none⟩) (by have := HS1.out; show W.heap.size < w1.heap.size; omega)).trans hk1) (hd1.map.of_block (B2.block m hd1.map.lt)))
  gi_wp2
  refine ⟨trivial, ((callsIn_wide (n := n - 1)).2 hsort).mono ?_⟩
  rintro e w2 ⟨v, ts, rfl, hts, hrow, hB2⟩
  rw [HK.out] at hts
  have hB : Below W.heap.size W w2 := bt B1w hB2
  have hJ2 : J [] w2 := hJ [] W w2 none h0 ⟨hB.os, hB.tape, hB.output, hB.size, fun k hk _ => hB.block k hk⟩ (fun r e => by cases e)
  clear hsort
  subst hts
  rcases hrow.2 with ⟨rfl, hz⟩ | ⟨g, cap, cur, rfl, hg0, hgb, hr⟩
  · have hy0 : ys = [] := List.eq_nil_of_length_eq_zero (by rw [HYl.out]; exact hz)
    subst hy0
    gi_wp2
    gi_loopw [12] (fun i wr => i = .int .i64 0 ∧ J [] wr) (fun _ _ => 0)
    case atStart => exact ⟨rfl, hJ2⟩
    case round =>
      obtain ⟨rfl, hJs⟩ := hrel
      gi_wp2
      go_end0
      exact ⟨⟨_, rfl⟩, .inl ⟨[], rfl, hJs⟩⟩
  · have hq2 : Q w2 g := HQ.out w2 g cur hB (by have := HS1.out; omega) hgb
    clear hr
    generalize hN : (looseOf s).length = N at *
    have HN := Lib.hid hN
    clear hN
    gi_wp2
    gi_loopw [12] (fun i wr => ∃ k : Nat, k ≤ N ∧ i = .int .i64 k ∧ J (ys.take k) wr ∧ wr.heap[g]? = w2.heap[g]? ∧ Q wr g) (fun i _ => N - (intOf i).toNat)
    case atStart => exact ⟨0, Nat.zero_le _, rfl, by simpa using hJ2, rfl, hq2⟩
    case round =>
      obtain ⟨k, hk, rfl, hJs, hgr, hqr⟩ := hrel
      by_cases hlt : k < N
      · have hky : k < ys.length := by rw [HYl.out]; exact hlt
        have hkl : k < (looseOf s).length := by rw [HN.out]; exact hlt
        have hval : (looseOf s)[k]? = some (val ys[k]) := by
          rw [← HY.out, List.getElem?_map, List.getElem?_eq_getElem hky]
          rfl
        have hrow' := ownsRow_of_block (W' := wr) (ownsRow_base hrow) (fun k hk => by cases hk; exact hgr)
        have q0 : wr.cell? ⟨g, k, none⟩ = some (.int .i64 (val ys[k])) := ownsRow_cell hrow' rfl (by rw [List.getElem?_map, hval]; rfl)
        have htk : ys.take (k + 1) = ys.take k ++ [ys[k]] := List.take_succ_eq_append_getElem hky
        have hJk : (ys.take k).length < ys.length := by rw [List.length_take]; omega
        have hgl : g < wr.heap.size := ownsRow_lt hrow' rfl
        generalize ys[k] = x at *
        have HT := Lib.hid htk
        have HV := Lib.hid hval
        obtain ⟨fn, tmps, assign, body, hy, hR⟩ := hY _ x _ hJs hJk
        clear htk hval hrow' hky hkl hJk
        gi_wp2
        refine hR.mono ?_
        rintro e W3 (⟨rfl, hJ3, hk3⟩ | ⟨rfl, hJx3⟩)
        · have hnx := hKp _ _ g hk3 hqr
          gi_wp2
          go_roundw
          case rel => exact ⟨k + 1, by omega, by go_num, by rw [HT.out]; exact hJ3, hnx.2.trans hgr, hnx.1⟩
          case measure => simp [intOf]; omega
        · gi_wp2
          refine bodyPost_ret (results_none rfl _ _ _) rfl ?_
          exact ⟨⟨_, rfl⟩, .inr ⟨_, trivial, hJx3⟩⟩
      · obtain rfl : k = N := by omega
        gi_wp2
        go_end0
        exact ⟨⟨_, rfl⟩, .inl ⟨_, rfl, by rw [List.take_of_length_le (by rw [HYl.out]; exact Nat.le_refl _)] at hJs; exact hJs⟩⟩

set_option maxHeartbeats 400000 in
theorem dev_looser (p : Nat) (w : World) : Calls Tryz.prog 50 #[.pointer (some ⟨p, 0, none⟩)] w fun e w' => e = .returned (.func (.func 82) #[] #[.pointer (some ⟨w.heap.size, 0, none⟩)]) ∧ w.alloc (.cells #[.pointer (some ⟨p, 0, none⟩)] 25) = w' := by
  go_enter Tryz.func50, Tryz.ntmps50
  go_wp2_with fail
  go_ret
  exact ⟨rfl, rfl⟩

/-- The iterator's contract over any numbering of the sectors, for any body that keeps its row. -/
theorem loose_stops {α : Type} (val : α → Int) (n B1 : Nat) (hn : 1 ≤ n) {p : Nat} {F : Nat → Prop} {s : DS} (ys : List α) (hys : ys.map val = looseOf s) (Kp : World → World → Prop) (Q : World → Nat → Prop)
    (hKp : ∀ W1 W' g, Kp W1 W' → Q W1 g → Q W' g ∧ W'.heap[g]? = W1.heap[g]?) (w : World) (h : Dv w p F s) (h1 : w.heap[B1]? = some (.cells #[.pointer (some ⟨p, 0, none⟩)] 25 (0, 0)))
    (hQ0 : ∀ W' g cur, Below w.heap.size w W' → w.heap.size ≤ g → W'.heap[g]? = some (.cells cur 3 (0, 0)) → Q W' g) :
    SeqStopsK Fence.wide n Tryz.prog 82 #[.pointer (some ⟨B1, 0, none⟩)] (fun x : α => #[Value.int .i64 (val x)]) Kp (fun zs => zs = ys) (fun _ => True) ys.length w :=
  fun l J Jx W hW hJ _ hY h0 => loose1_in val n l B1 hn ys hys J Jx Kp Q hKp hY W hJ (h.below hW) ((hW.block B1 (blk_lt h1)).trans h1) (fun W' g cur hB hg hc => hQ0 W' g cur (hW.trans (hB.mono hW.size)) (Nat.le_trans hW.size hg) hc) h0

end Go.Proofs.YtjjphcnoegaimaaGreat

namespace Go.Proofs.YtjjphcnoegaimaaGreat
open Go.RowKit Go.Shelf Go.Maps
attribute [local go_sem] Oper.semAt_some
attribute [local go_sem ↓] field_row
set_option maxRecDepth 20000

/-- A round keeps the rows of numbers, but the block A. -/
def KpI (A : Nat) (W W' : World) : Prop := ∀ k cs, k ≠ A → W.heap[k]? = some (.cells cs 3 (0, 0)) → W'.heap[k]? = some (.cells cs 3 (0, 0))
theorem KpI.t {A : Nat} {X Y Z : World} (h : KpI A X Y) (k : KpI A Y Z) : KpI A X Z := fun i cs hi he => k i cs hi (h i cs hi he)
theorem KpI.b {A : Nat} {w : World} (W : World) (l : Nat) (o o' : Obj) (_ : w.heap.size ≤ l) (h : W.heap[l]? = some o) (hc : o.isCells = false) (_ : o.isWalk = false) : KpI A W (W.putObj l o') := by
  intro k cs _ hk
  refine (World.putObj_heap_other (fun e => ?_)).trans hk
  subst e
  rw [h] at hk
  cases hk
  cases hc
def QI (A : Nat) (W : World) (g : Nat) : Prop := g ≠ A ∧ ∃ cs, W.heap[g]? = some (.cells cs 3 (0, 0))
theorem KpI.q {A : Nat} (W1 W' : World) (g : Nat) (h : KpI A W1 W') (hq : QI A W1 g) : QI A W' g ∧ W'.heap[g]? = W1.heap[g]? := by
  obtain ⟨h1, cs, h2⟩ := hq
  exact ⟨⟨h1, cs, h g cs h1 h2⟩, (h g cs h1 h2).trans h2.symm⟩

section
variable {W W' : World} {p : Nat} {F : Nat → Prop} {s : DS}
theorem DvS.weak {G : Nat → Prop} (h : DvS W p F s W') (hg : ∀ k, F k → G k) : DvS W p G s W' :=
  ⟨h.1.weak (fun k hk => hk.imp (hg k) id), h.2.1.weak (fun k _ => hg k), h.2.2⟩
theorem DevAt.foot_cells {hb hc m : Nat} {L : List (Int × Value)} (h : DevAt W p hb hc m L s) {k : Nat} (hk : dfoot p hb m L k) : k = m ∨ ∃ cs t, W.heap[k]? = some (.cells cs t (0, 0)) ∧ t ≠ 3 := by
  rcases hk with rfl | rfl | rfl | ⟨x, hx, e⟩
  · exact .inr ⟨_, _, h.obj, by decide⟩
  · obtain ⟨cur, hh⟩ := ownsRow_type h.hard rfl
    exact .inr ⟨_, _, hh, by decide⟩
  · exact .inl rfl
  · obtain ⟨g, c, e1, h1, _⟩ := h.rows x hx
    rw [e1] at e
    obtain ⟨cur, hh⟩ := ownsRow_type h1 e
    exact .inr ⟨_, _, hh, by decide⟩
/-- What a call of the device's own leaves, as a body of a range over a function owes it. -/
theorem DvS.owes {hb hc m B A : Nat} {L : List (Int × Value)} {s' : DS} (h : DevAt W p hb hc m L s) (hm : m < B) (hs : DvS W p (dfoot p hb m L) s' W') : KeepsFrom B W W' ∧ KpI A W W' := by
  have hf := hs.2.1
  refine ⟨⟨hf.size, fun k o hk ho hc => (hf.block k (blk_lt ho) (fun hd => ?_)).trans ho⟩, fun k cs _ ho => (hf.block k (blk_lt ho) (fun hd => ?_)).trans ho⟩
  · rcases h.foot_cells hd with e | ⟨cs, t, e, _⟩
    · omega
    · rw [e] at ho; cases ho; cases hc
  · rcases h.foot_cells hd with e | ⟨cs', t, e, ht⟩
    · subst e
      obtain ⟨es, c, hb', _⟩ := h.map
      rw [hb'] at ho
      cases ho
    · rw [e] at ho
      simp only [Option.some.injEq, Obj.cells.injEq] at ho
      exact ht ho.2.1
theorem Dv.map_same (h : Dv W p F s) {m : Nat} (hm : W.cell? ⟨p, 4, none⟩ = some (.map (some m))) : ∃ hb hc L, DevAt W p hb hc m L s ∧ ∀ k, dfoot p hb m L k → F k := by
  obtain ⟨hb, hc, m', L, h, hF⟩ := h
  have := cl_of h.obj 4
  rw [hm] at this
  obtain rfl : m = m' := by simpa using this
  exact ⟨hb, hc, L, h, hF⟩
/-- Blocks that are no cells from B on may turn. -/
theorem Dv.own (h : Dv W p F s) {m B : Nat} (hm : W.cell? ⟨p, 4, none⟩ = some (.map (some m))) (hmB : m < B) {row : Option Nat} (hg : W.grownBy W' row) (hr : ∀ r, row = some r → B ≤ r ∧ ∃ o : Obj, W.heap[r]? = some o ∧ o.isCells = false) : Dv W' p F s := by
  obtain ⟨hb, hc, L, h, hF⟩ := h.map_same hm
  refine ⟨hb, hc, m, L, h.keep (fun k hk => hg.block k (h.lt hk) (fun e => ?_)), hF⟩
  obtain ⟨h1, o, h2, h3⟩ := hr k e.symm
  rcases h.foot_cells hk with e | ⟨cs, t, e, _⟩
  · omega
  · rw [e] at h2; cases h2; cases h3
end

/-- The sectors that have cached writes, as numbers below n. -/
def looseF (s : DS) : List (Fin s.hard.length) := (List.finRange s.hard.length).filter (fun i => decide (s.rows i.1 ≠ []))
theorem looseF_val (s : DS) : (looseF s).map (fun i => (i.1 : Int)) = looseOf s := by
  have h : (List.finRange s.hard.length).map (fun i => (i.1 : Int)) = (List.range s.hard.length).map (fun i : Nat => (i : Int)) := by
    apply List.ext_getElem <;> simp
  unfold looseF looseOf
  rw [← h, List.filter_map]
  rfl
/-- Sectors' cached writes, all written back, one sector behind the other. -/
def flushL {n : Nat} (s : DS) (l : List (Fin n)) : DS := l.foldl (fun s i => keepS s i.1 (s.rows i.1).length) s
theorem flushL_hard {n : Nat} (l : List (Fin n)) : ∀ (s : DS), (flushL s l).hard.length = s.hard.length := by
  induction l with
  | nil => intro s; rfl
  | cons i l ih =>
    intro s
    rw [flushL, List.foldl_cons, ← flushL, ih]
    unfold keepS
    split <;> simp
theorem keepS_rows (s : DS) (i k : Nat) (j : Int) : ((keepS s i k).rows j).length ≤ (s.rows j).length := by
  unfold keepS
  split
  · exact Nat.le_refl _
  · by_cases h : j = i
    · subst h; simp [setR_same]
    · simp [setR_other _ _ h]
theorem flushL_rows {n : Nat} (l : List (Fin n)) : ∀ (s : DS) (j : Int), ((flushL s l).rows j).length ≤ (s.rows j).length := by
  induction l with
  | nil => intro s j; exact Nat.le_refl _
  | cons i l ih =>
    intro s j
    rw [flushL, List.foldl_cons, ← flushL]
    exact Nat.le_trans (ih _ j) (keepS_rows _ _ _ _)
theorem flushL_snoc {n : Nat} (s : DS) (l : List (Fin n)) (i : Fin n) : flushL s (l ++ [i]) = keepS (flushL s l) i.1 ((flushL s l).rows i.1).length := by
  simp [flushL]

section
variable {w : World} {p : Nat} {F : Nat → Prop} {s : DS}
set_option maxHeartbeats 400000 in
theorem flush_down (h : Dv w p F s) (hd : s.dead = true) : Calls Tryz.prog 78 #[.pointer (some ⟨p, 0, none⟩)] w fun e w' => e = .returned (.int .i64 30) ∧ Below w.heap.size w w' := by
  have B1 : Below w.heap.size w (w.alloc (.cells #[.pointer (some ⟨p, 0, none⟩)] 25)) := bnew _ _
  obtain ⟨hb, hc, m, L, h, -⟩ := h.below B1
  go_enter Tryz.func78, Tryz.ntmps78
  go_wp2_with fail
  refine (dev_ready_no h hd).mono ?_
  rintro e w1 ⟨rfl, rfl⟩
  go_wp2_with fail
  go_ret
  exact ⟨rfl, B1⟩

/-- What holds between two rounds. -/
structure FlI (w : World) (p m B1 : Nat) (F : Nat → Prop) (s : DS) (W : World) : Prop where
  dev : Dv W p (fun k => F k ∨ w.heap.size ≤ k ∧ k ≠ B1) s
  fr : Fr F w W
  map : W.cell? ⟨p, 4, none⟩ = some (.map (some m))
  box : W.heap[B1]? = some (.cells #[.pointer (some ⟨p, 0, none⟩)] 25 (0, 0))
theorem FlI.own {m B1 B : Nat} {W W' : World} (h : FlI w p m B1 F s W) (hmB : m < B) (hwB : w.heap.size ≤ B) {row : Option Nat} (hg : W.grownBy W' row) (hr : ∀ r, row = some r → B ≤ r ∧ ∃ o : Obj, W.heap[r]? = some o ∧ o.isCells = false) : FlI w p m B1 F s W' := by
  have hp : some p ≠ row := by
    intro e
    obtain ⟨h1, o, h2, h3⟩ := hr p e.symm
    have := h.map
    simp only [World.cell?, h2] at this
    cases o <;> simp_all [Obj.isCells]
  have hpl : p < W.heap.size := by
    obtain ⟨hb, hc, L, h, -⟩ := h.dev.map_same h.map
    exact blk_lt h.obj
  refine ⟨h.dev.own h.map hmB hg hr, h.fr.grown hg (fun k e => .inl (Nat.le_trans hwB (hr k e).1)), (hg.cell_far ⟨p, 4, none⟩ hpl hp).trans h.map, (hg.block B1 (blk_lt h.box) (fun e => ?_)).trans h.box⟩
  obtain ⟨h1, o, h2, h3⟩ := hr B1 e.symm
  rw [h.box] at h2
  cases h2
  cases h3
theorem FlI.step {m B1 B A : Nat} {s' : DS} {W W' : World} (h : FlI w p m B1 F s W) (hF : ¬ F B1) (hB1 : B1 < W.heap.size) (hmB : m < B) {hb hc : Nat} {L : List (Int × Value)} (hd : DevAt W p hb hc m L s) (hf : ∀ k, dfoot p hb m L k → F k ∨ w.heap.size ≤ k ∧ k ≠ B1) (hs : DvS W p (dfoot p hb m L) s' W') : FlI w p m B1 F s' W' ∧ KeepsFrom B W W' ∧ KpI A W W' := by
  refine ⟨⟨hs.1.weak (fun k hk => ?_), ?_, hs.2.2.trans h.map, (hs.2.1.block B1 hB1 (fun hk => ?_)).trans h.box⟩, hs.owes hd hmB⟩
  · rcases hk with hk | hk
    · exact hf k hk
    · exact .inr ⟨Nat.le_trans h.fr.size hk, by omega⟩
  · have h1 := h.fr
    have h2 := hs.2.1
    exact ⟨h2.os.trans h1.os, h2.tape.trans h1.tape, h2.output.trans h1.output, Nat.le_trans h1.size h2.size, fun k hk hn => (h2.block k (Nat.lt_of_lt_of_le hk h1.size) (fun hd => by
      rcases hf k hd with e | ⟨e, _⟩
      · exact hn e
      · omega)).trans (h1.block k hk hn)⟩
  · rcases hf B1 hk with e | ⟨_, e⟩
    · exact hF e
    · exact e rfl
theorem keep_body {m B1 B A : Nat} {W : World} (h : FlI w p m B1 F s W) (hF : ¬ F B1) (hB1 : B1 < W.heap.size) (hmB : m < B) (i k : Nat) (hi : i < s.hard.length) (hk : k ≤ (s.rows i).length) (hn : (s.rows i).length ≤ 100000) :
    Calls Tryz.prog 51 #[.pointer (some ⟨p, 0, none⟩), .int .i64 i, .int .i64 k] W fun e w' => e = .returned (.tuple #[]) ∧ FlI w p m B1 F (keepS s i k) w' ∧ KeepsFrom B W w' ∧ KpI A W w' := by
  obtain ⟨hb, hc, L, hd, hf⟩ := h.dev.map_same h.map
  refine (dev_keep (F := dfoot p hb m L) ⟨hb, hc, m, L, hd, fun _ hk => hk⟩ i k hi hk hn).mono ?_
  rintro e w' ⟨rfl, hs⟩
  exact ⟨rfl, h.step hF hB1 hmB hd hf hs⟩

set_option maxRecDepth 100000 in
set_option maxHeartbeats 4000000 in
theorem dev_flush (h : Dv w p F s) (hd : s.dead = false) (hrw : ∀ j, (s.rows j).length ≤ 100000) : Calls Tryz.prog 78 #[.pointer (some ⟨p, 0, none⟩)] w fun e w' => e = .returned (.int .i64 0) ∧ DvS w p F (flushL s (looseF s)) w' := by
  obtain ⟨hb, hc, m, L, h, hF⟩ := h
  suffices H : Calls Tryz.prog 78 #[.pointer (some ⟨p, 0, none⟩)] w fun e w' => e = .returned (.int .i64 0) ∧ DvS w p (dfoot p hb m L) (flushL s (looseF s)) w' by
    exact H.mono (fun e w' ⟨h1, h2⟩ => ⟨h1, h2.weak hF⟩)
  have hlt : ∀ k, dfoot p hb m L k → k < w.heap.size := fun k hk => h.lt hk
  clear hF
  have hD : Dv w p (dfoot p hb m L) s := ⟨hb, hc, m, L, h, fun _ hk => hk⟩
  have hm4 : w.cell? ⟨p, 4, none⟩ = some (.map (some m)) := cl_of h.obj 4
  have hml : m < w.heap.size := hlt m (.inr (.inr (.inl rfl)))
  have hlen : (looseF s).length ≤ 4096 := by
    have := h.pos
    refine Nat.le_trans (List.length_filter_le _ _) ?_
    simp
    omega
  obtain ⟨W0, hW0⟩ : ∃ W0, w.alloc (.cells #[.pointer (some ⟨p, 0, none⟩)] 25) = W0 := ⟨_, rfl⟩
  have B0 : Below w.heap.size w W0 := by rw [← hW0]; exact bnew _ _
  have hb0 : W0.heap[w.heap.size]? = some (.cells #[.pointer (some ⟨p, 0, none⟩)] 25 (0, 0)) := by rw [← hW0]; exact hp_new _ _ rfl
  have hc0 : W0.cell? ⟨w.heap.size, 0, none⟩ = some (.pointer (some ⟨p, 0, none⟩)) := cl_of hb0 0
  have h0 := h.below B0
  have hB0s : w.heap.size < W0.heap.size := blk_lt hb0
  refine (callsIn_wide (n := 9)).1 (callsIn_of_wp_marks Tryz.func78 rfl trivial ?_ rfl)
  refine wpIn_wide.2 ?_
  simp only [Tryz.ntmps78, List.size_toArray, List.length_cons, List.length_nil, Nat.reduceAdd, Nat.reduceSub, Array.replicate_succ, Array.replicate_zero, List.push_toArray, List.append_toArray, List.nil_append, List.cons_append]
  go_wp2_with fail
  clear hW0
  refine (dev_ready h0 hd).mono ?_
  rintro e w1 ⟨rfl, rfl⟩
  go_wp2_with fail
  refine (dev_looser p W0).mono ?_
  rintro e w1 ⟨rfl, hw1⟩
  have B1 : Below W0.heap.size W0 w1 := by rw [← hw1]; exact bnew _ _
  have hb1 : w1.heap[W0.heap.size]? = some (.cells #[.pointer (some ⟨p, 0, none⟩)] 25 (0, 0)) := by rw [← hw1]; exact hp_new _ _ rfl
  clear hw1
  go_wp2_with fail
  have hW : FlI w p m w.heap.size (dfoot p hb m L) s w1 := by
    have hbb := bt B0 B1
    refine ⟨(hD.weak (fun _ hk => .inl hk)).below hbb, Fr.of_below hbb, (hbb.cell (p := ⟨p, 4, none⟩) (hlt p (.inl rfl))).trans hm4, (B1.block _ hB0s).trans hb0⟩
  have hnF : ¬ dfoot p hb m L w.heap.size := fun hk => by have := hlt _ hk; omega
  have hmB : m < w1.heap.size := by have := (bt B0 B1).size; omega
  have hwB := (bt B0 B1).size
  have hseq := loose_stops (fun i : Fin s.hard.length => (i.1 : Int)) 8 W0.heap.size (by decide) (looseF s) (looseF_val s) (KpI w.heap.size) (QI w.heap.size) (KpI.q (A := w.heap.size)) w1 (hD.below (bt B0 B1)) hb1
    (fun W' g cur hB hg hc => ⟨by have := (bt B0 B1).size; have := B1.size; omega, cur, hc⟩)
  have hdl : s.hard.length ≤ 4096 := h.pos.2
  have HD := Lib.hid hD
  have HS := Lib.hid hseq
  have HN := Lib.hid hnF
  have HR := Lib.hid hrw
  have HLN := Lib.hid hlen
  have hp4 : p < w.heap.size := hlt p (.inl rfl)
  clear hD hseq hnF hrw hlen h h0 hb0 hc0 hb1 hlt
  refine (wpIn_wide (n := 9)).1 ?_
  refine wpIn_rangeFunc_ownG rfl (by omega) (gf := 82) (lb := #[.pointer (some ⟨W0.heap.size, 0, none⟩)]) rfl trivial (fun _ _ => by rfl)
    HS.out KpI.t KpI.b (Below.refl _ _) (fun _ => rfl)
    (fun pre W => FlI w p m w.heap.size (dfoot p hb m L) (flushL s pre) W)
    (fun _ _ _ => False)
    (fun pre W W' row hi hg hr => hi.own hmB hwB hg hr)
    (fun _ _ _ _ _ hs _ _ => hs)
    hW
    (fun x => { tmps := #[.pointer (some ⟨p, 0, none⟩), .pointer (some ⟨w.heap.size, 0, none⟩), .int .i64 0, .int .i64 0, .int .i64 x.1, .pointer (some ⟨p, 0, none⟩), .int .i64 0, .int .i64 0, .bool false, undef, .pointer (some ⟨p, 0, none⟩), .func (.func 82) #[] #[.pointer (some ⟨W0.heap.size, 0, none⟩)], .int .i64 x.1, undef, undef, undef, undef, undef, undef, undef, undef, undef, undef, undef], defers := [] }) ?assign ?body ?done ?stop
  case assign =>
    intro l x W K hK
    gi_wp2
    exact hK
  case body =>
    rintro l pre x W hI hpre
    have hbx : W.cell? ⟨w.heap.size, 0, none⟩ = some (.pointer (some ⟨p, 0, none⟩)) := cl_of hI.box 0
    have hm4 := hI.map
    have hId : FlI w p m w.heap.size (dfoot p hb m L) (flushL s pre) W.drew := hI.own hmB hwB (row := none) ⟨rfl, rfl, rfl, Nat.le_refl _, fun _ _ _ => rfl⟩ (fun r e => by cases e)
    have hlk : ∃ a c, (Instr.lookup 114 (.map (some m)) (.int .i64 x.1) false).run Tryz.prog W.drew = .ok (.agg #[.slice a ((flushL s pre).rows x.1).length c]) W.drew := by
      obtain ⟨hb', hc', L', hd', -⟩ := hId.dev.map_same hId.map
      obtain ⟨v, hro, hrow, -⟩ := hd'.row x.1
      have := hd'.look x.1
      rw [hro] at this
      rcases hrow.2 with ⟨e, e2⟩ | ⟨g, c, cur, e, _⟩
      · exact ⟨none, 0, by rw [this, e, e2]⟩
      · exact ⟨_, c, by rw [this, e]⟩
    obtain ⟨a, c, hlk⟩ := hlk
    have hlW : w.heap.size < W.drew.heap.size := blk_lt hI.box
    have hkb := keep_body (B := w1.heap.size) (A := w.heap.size) hId HN.out hlW hmB x.1 ((flushL s pre).rows x.1).length (by rw [flushL_hard]; exact x.2) (Nat.le_refl _) (Nat.le_trans (flushL_rows pre s _) (HR.out _))
    have HKB := Lib.hid hkb
    have hsn := flushL_snoc s pre x
    have HSN := Lib.hid hsn
    have HId := Lib.hid hId
    have HI := Lib.hid hI
    clear hkb hsn hId hI
    generalize (flushL s pre).rows x.1 = rw1 at *
    have mo : Tryz.prog.follows Departure.mixedOrders = true := by kernel_rfl
    have hn1 : 1 ≤ 9 - 1 - 1 := by decide
    gi_wp2
    refine wpIn_region_still_tail_round 10 mo (by kernel_rfl) (by kernel_rfl) (by rintro ⟨_, _, h⟩; exact h) ?_
    simp only [List.take_succ_cons, List.take_zero, List.drop_succ_cons, List.drop_zero]
    repeat still_step
    refine wpStill_nil ?_
    go_wp2_with fail
    refine HKB.out.mono ?_
    rintro e w3 ⟨rfl, hI3, hk3, hp3⟩
    go_wp2_with fail
    exact ⟨⟨hk3.size, hk3.same⟩, hp3, by show FlI w p m w.heap.size (dfoot p hb m L) (flushL s (pre ++ [x])) w3; rw [HSN.out]; exact hI3⟩
  case done =>
    rintro D ys W hD rfl hI hK
    have hI2 := hI.own (row := some D) hmB hwB (grownBy_putObj' W D (.deferred none)) (fun r e => by cases e; exact ⟨hD, _, hK, rfl⟩)
    go_wp2
    refine ⟨by simp, .inl ⟨_, _, rfl, run_takeDeferred hK, ?_⟩⟩
    refine ⟨_, results_tmp rfl _ _ _, rfl, hI2.dev.weak (fun k hk => hk.imp id (fun h => h.1)), hI2.fr, hI2.map.trans hm4.symm⟩
  case stop =>
    rintro D c pre W _ _ h _
    exact h.elim
end
end Go.Proofs.YtjjphcnoegaimaaGreat
