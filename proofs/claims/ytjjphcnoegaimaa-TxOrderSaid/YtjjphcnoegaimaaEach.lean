/- maps.Keys at what a transaction wrote; its iterator each. -/
import Derived.Test.YtjjphcnoegaimaaTx
import Derived.Test.YtjjphcnoegaimaaKeysD
import Derived.Test.YtjjphcnoegaimaaBound
namespace Go.Proofs.Ytjjphcnoegaimaa
open Go.RowKit Go.Shelf Go.Maps
attribute [local go_sem] Oper.semAt_some
set_option maxRecDepth 20000
set_option linter.unusedVariables false

set_option maxRecDepth 100000 in
set_option maxHeartbeats 1000000 in
theorem keysT1_in (n l Bm b : Nat) (hn : 1 ≤ n) (L : List (Int × Value)) (J Jx : List Int → World → Prop)
    (hY : ∀ pre x W, J pre W → pre.length < L.length → YieldAt Fence.wide (n - 1) Try.prog l #[.int .i64 x] W fun e W' =>
      (e = .returned (.bool true) ∧ J (pre ++ [x]) W' ∧ KeepsWalks W W') ∨ (e = .returned (.bool false) ∧ Jx (pre ++ [x]) W'))
    (W : World) (hJ : AbidesFrom W.heap.size J) (hm : W.cell? ⟨Bm, 0, none⟩ = some (.map (some b))) (hmap : MapS W b .i64 L) (hL : L.length ≤ maxLen) (h0 : J [] W) :
    CallsIn Fence.wide n Try.prog 111 #[.func (.yield l) #[] #[], .pointer (some ⟨Bm, 0, none⟩)] W fun e W' => (∃ v, e = .returned v) ∧
      ((∃ ss : List Int, ss.Perm (L.map Prod.fst) ∧ J ss W') ∨ (∃ pre : List Int, True ∧ Jx pre W')) := by
  obtain ⟨D0, hown, hD⟩ := hmap.owns Try.underlying3 hL
  have hnd := hmap.nodup
  have HN := Lib.hid hnd
  have HD := Lib.hid hD
  have HL : (L.map Prod.fst).length = L.length := by simp
  clear hmap hnd hD
  refine callsIn_of_wp Try.func111 rfl trivial ?_ rfl
  simp only [Try.ntmps111, List.size_toArray, List.length_cons, List.length_nil, Nat.reduceAdd, Nat.reduceSub, Array.replicate_succ, Array.replicate_zero, List.push_toArray, List.append_toArray, List.nil_append, List.cons_append]
  gi_wp2_with (first | (gi_at_range; refine wpListIn_range_own _ rfl _ 122 rfl 3 9 (int_keyed Try.underlying3) Try.underlying122 anyR b L.length _ rfl hown ?_; intro w0 hrg0 hg0 hs0) | gi_in)
  go_frame
  gi_loopw [3] (fun _ wr => ∃ (left : Lit → Bool) (cnt : Nat) (ss : List Int), wr.ranges Try.prog 3 anyR b W.heap.size L.length D0 left cnt ∧ Came .i64 D0 left ss ∧ J ss wr)
    (fun _ wr => wr.rangeLeft b W.heap.size)
  case atStart => exact ⟨_, _, [], hrg0, Came.start .i64 D0, hJ [] W w0 none h0 hg0 (fun r e => by cases e)⟩
  case round =>
    obtain ⟨left, cnt, ss, hrg, hC, hJs⟩ := hrel
    gi_wp2_with (first | (gi_at_next; refine wpListIn_next_ranges _ rfl _ rfl 3 (int_keyed Try.underlying3) anyR (Value.int .i64) id (fun key kl hk => by obtain ⟨x, hx, _⟩ := keyOf_q Try.underlying3 hk; exact ⟨x, hx⟩) (fun v _ _ => ⟨v, rfl⟩) b W.heap.size L.length _ _ _ rfl hrg ?_ ?_) | gi_in)
    · intro hc0 hl0
      gi_wp2
      go_end0
      exact ⟨⟨_, rfl⟩, .inl ⟨ss, hC.perm HN.out HD.out hl0, hJs⟩⟩
    · intro x c kl yd yp w2 cnt2 hkey hlk hv hat hrg2 hlt hg2 hs2 hen
      obtain ⟨x', ex, rfl, _⟩ := keyOf_q Try.underlying3 hkey
      obtain rfl : x = x' := by simpa using ex
      have hJ2 : J ss w2 := hJ ss wr w2 (some W.heap.size) hJs hg2 (fun r e => by cases e; exact ⟨Nat.le_refl _, hrg.iter_walk⟩)
      have hC2 := hC.step hlk hat
      have hl2 := hC2.len HD.out
      have hl3 : ss.length < L.length := by simp at hl2; omega
      obtain ⟨fn, tmps, assign, body, hy, hR⟩ := hY ss x w2 hJ2 hl3
      clear hs2 hl2
      gi_wp2
      refine hR.mono ?_
      rintro e W3 (⟨rfl, hJ3, hk3⟩ | ⟨rfl, hJx3⟩)
      · gi_wp2
        have hrg3 := hrg2.of_walks hk3
        go_roundw
        case rel => exact ⟨_, cnt2, ss ++ [x], hrg3, hC2, hJ3⟩
        case measure => rw [hrg3.left_eq, hrg.left_eq]; exact hlt
      · gi_wp2
        refine bodyPost_ret (results_none rfl _ _ _) rfl ?_
        exact ⟨⟨_, rfl⟩, .inr ⟨_, trivial, hJx3⟩⟩

theorem keysT_in (n : Nat) (mb : Option Nat) (w : World) :
    CallsIn Fence.wide n Try.prog 98 #[.map mb] w fun e w' => e = .returned (.func (.func 111) #[] #[.pointer (some ⟨w.heap.size, 0, none⟩)]) ∧ w.alloc (.cells #[.map mb] 122) = w' := by
  refine callsIn_of_wp Try.func98 rfl trivial ?_ rfl
  simp only [Try.ntmps98, List.size_toArray, List.length_cons, List.length_nil, Nat.reduceAdd, Nat.reduceSub, Array.replicate_succ, Array.replicate_zero, List.push_toArray, List.append_toArray, List.nil_append, List.cons_append]
  gi_wp2
  go_ret
  exact ⟨rfl, rfl⟩

theorem keysT_stops (n : Nat) (hn : 1 ≤ n) (Bm b B : Nat) (L : List (Int × Value)) (hL : L.length ≤ maxLen) (w : World) (hBm : Bm < w.heap.size)
    (hm : w.cell? ⟨Bm, 0, none⟩ = some (.map (some b))) (hmap : MapS w b .i64 L) :
    SeqStopsK Fence.wide n Try.prog 111 #[.pointer (some ⟨Bm, 0, none⟩)] (fun x : Int => #[Value.int .i64 x]) (ApKp B) (fun ss => ss.Perm (L.map Prod.fst)) (fun _ => True) L.length w :=
  fun l J Jx W hW hJ _ hY h0 => keysT1_in n l Bm b hn L J Jx (fun pre x W1 h1 h2 => YieldAt.mono (hY pre x W1 h1 h2) (fun _ _ h => h.imp (fun ⟨a, b, c⟩ => ⟨a, b, c.walks⟩) id)) W hJ ((hW.cell (p := ⟨Bm, 0, none⟩) hBm).trans hm) (hmap.of_block (hW.block b hmap.lt)) hL h0


set_option maxHeartbeats 2000000 in
theorem each_in (n l : Nat) (hn : 1 ≤ n) {tb p jb m : Nat} {M : Wl} {dn : Bool} (J : Wl → World → Prop) (Kp : World → World → Prop) (Q : World → Nat → Prop)
    (hKp : ∀ W1 W' g, Kp W1 W' → Q W1 g → Q W' g ∧ W'.heap[g]? = W1.heap[g]?)
    (hY : ∀ pre (x : Int × ByteArray) W, J pre W → pre.length < M.length → YieldAt Fence.wide (n - 1) Try.prog l #[.int .i64 x.1, .string x.2] W fun e W' => e = .returned (.bool true) ∧ J (pre ++ [x]) W' ∧ Kp W W')
    (W : World) (hJ : AbidesFrom W.heap.size J) (h : TxA W tb p jb m M dn) (hM : M.length ≤ 1000000) (hqt : ∀ W', Below W.heap.size W W' → Q W' tb ∧ Q W' m)
    (hQ0 : ∀ W' g cur, Below W.heap.size W W' → W.heap.size ≤ g → W'.heap[g]? = some (.cells cur 3 (0, 0)) → Q W' g) (h0 : J [] W) :
    CallsIn Fence.wide n Try.prog 79 #[.pointer (some ⟨tb, 0, none⟩), .func (.yield l) #[] #[]] W fun e W' => (∃ v, e = .returned v) ∧ ∃ xs, xs = M ∧ J xs W' := by
  obtain ⟨L, hmS, hmW⟩ := h.map
  have c2 : W.cell? ⟨tb, 2, none⟩ = some (.map (some m)) := cl_of h.obj 2
  have hkeys := hmW.sorted
  have hLn := hmW.length
  refine callsIn_of_wp Try.func79 rfl trivial ?_ rfl
  simp only [Try.ntmps79, List.size_toArray, List.length_cons, List.length_nil, Nat.reduceAdd, Nat.reduceSub, Array.replicate_succ, Array.replicate_zero, List.push_toArray, List.append_toArray, List.nil_append, List.cons_append]
  gi_wp2
  refine ⟨trivial, (keysT_in (n - 1) (some m) W).mono ?_⟩
  rintro e w1 ⟨rfl, hw1⟩
  have B1w : Below W.heap.size W w1 := by rw [← hw1]; exact bnew _ _
  have hm1 : MapS w1 m .i64 L := hmS.of_block (B1w.block m hmS.lt)
  have hk1 : w1.cell? ⟨W.heap.size, 0, none⟩ = some (.map (some m)) := by rw [← hw1]; exact cl_of (hp_new W _ rfl) 0
  have hs1 : w1.heap.size = W.heap.size + 1 := by rw [← hw1]; simp
  have HK := Lib.hid hkeys
  have HLn := Lib.hid hLn
  have HQ := Lib.hid hQ0
  have HS1 := Lib.hid hs1
  have HM := Lib.hid hM
  have HT := Lib.hid h
  have HMW := Lib.hid hmW
  clear hw1 hkeys hLn hQ0 hs1 hM h
  have B2 : Below w1.heap.size w1 (w1.alloc (.cells #[.slice none 0 0] 38)) := bnew _ _
  have hsort := sorted_gen (gf := 111) (lb := #[.pointer (some ⟨W.heap.size, 0, none⟩)]) (K := L.map Prod.fst) (N := L.length) (by rw [HLn.out]; exact HM.out) (by rw [List.length_map, HLn.out]; exact HM.out) w1 (fun _ _ => by rfl)
    (keysT_stops 8 (by decide) W.heap.size m w1.heap.size L (by rw [HLn.out]; have := HM.out; unfold maxLen; omega) _ (by have := B2.size; have := HS1.out; omega) ((B2.cell (p := ⟨W.heap.size, 0, none⟩) (by have := HS1.out; show W.heap.size < w1.heap.size; omega)).trans hk1) (hm1.of_block (B2.block m hm1.lt)))
  gi_wp2
  refine ⟨trivial, ((callsIn_wide (n := n - 1)).2 hsort).mono ?_⟩
  rintro e w2 ⟨v, ts, rfl, hts, hrow, hB2⟩
  rw [HK.out] at hts
  have hB : Below W.heap.size W w2 := bt B1w hB2
  have hJ2 : J [] w2 := hJ [] W w2 none h0 ⟨hB.os, hB.tape, hB.output, hB.size, fun k hk _ => hB.block k hk⟩ (fun r e => by cases e)
  have hT2 := HT.out.of hB
  have hq0 := hqt w2 hB
  clear hsort hmS hmW
  subst hts
  rcases hrow.2 with ⟨rfl, hz⟩ | ⟨g, cap, cur, rfl, hg0, hgb, hr⟩
  · have hy0 : M = [] := List.eq_nil_of_length_eq_zero (by simpa using hz)
    subst hy0
    gi_wp2
    gi_loopw [13] (fun i wr => i = .int .i64 0 ∧ J [] wr) (fun _ _ => 0)
    case atStart => exact ⟨rfl, hJ2⟩
    case round =>
      obtain ⟨rfl, hJs⟩ := hrel
      gi_wp2
      go_end0
      exact ⟨⟨_, rfl⟩, [], rfl, hJs⟩
  · have hq2 : Q w2 g := HQ.out w2 g cur hB (by have := HS1.out; omega) hgb
    clear hr
    have hKl : (M.map Prod.fst).length = M.length := by simp
    rw [hKl] at hrow ⊢
    generalize hN : M.length = N at *
    have HN := Lib.hid hN
    have hNb : N ≤ 1000000 := HM.out
    have HT2 := Lib.hid hT2
    clear hN hT2
    gi_wp2
    gi_loopw [13] (fun i wr => ∃ k : Nat, k ≤ N ∧ i = .int .i64 k ∧ J (M.take k) wr ∧ wr.heap[g]? = w2.heap[g]? ∧ Q wr g ∧ (wr.heap[tb]? = w2.heap[tb]? ∧ Q wr tb) ∧ (wr.heap[m]? = w2.heap[m]? ∧ Q wr m)) (fun i _ => N - (intOf i).toNat)
    case atStart => exact ⟨0, Nat.zero_le _, rfl, by simpa using hJ2, rfl, hq2, ⟨rfl, hq0.1⟩, rfl, hq0.2⟩
    case round =>
      obtain ⟨k, hk, rfl, hJs, hgr, hqr, ⟨htr, hqt'⟩, hmr, hqm⟩ := hrel
      by_cases hlt : k < N
      · have hky : k < M.length := by rw [HN.out]; exact hlt
        have hval : M[k]? = some M[k] := List.getElem?_eq_getElem hky
        have hTr := HT2.out.keep htr hmr
        have hrow' := ownsRow_of_block (W' := wr) (ownsRow_base hrow) (fun k hk => by cases hk; exact hgr)
        have q0 : wr.cell? ⟨g, k, none⟩ = some (.int .i64 M[k].1) := ownsRow_cell hrow' rfl (by simp [hval])
        have t2 : wr.cell? ⟨tb, 2, none⟩ = some (.map (some m)) := cl_of hTr.obj 2
        have htk : M.take (k + 1) = M.take k ++ [M[k]] := List.take_succ_eq_append_getElem hky
        have hJk : (M.take k).length < M.length := by rw [List.length_take]; omega
        have hgl : g < wr.heap.size := ownsRow_lt hrow' rfl
        have hlk := hTr.look M[k].1
        have hpg : pget M[k].1 M = some M[k].2 := mem_pget HMW.out.2.1 (List.getElem_mem hky)
        rw [hpg] at hlk
        clear hpg
        simp only [Option.getD_some] at hlk
        generalize M[k] = x at *
        have HT := Lib.hid htk
        have HV := Lib.hid hval
        rw [HN.out] at hJk
        obtain ⟨fn, tmps, assign, body, hy, hR⟩ := hY _ x _ hJs hJk
        clear htk hval hrow' hky hJk hTr
        gi_wp2
        refine hR.mono ?_
        rintro e W3 ⟨rfl, hJ3, hk3⟩
        have hnx := hKp _ _ g hk3 hqr
        have hnt := hKp _ _ tb hk3 hqt'
        have hnm := hKp _ _ m hk3 hqm
        gi_wp2
        go_roundw
        case rel => exact ⟨k + 1, by omega, by go_num, by rw [HT.out]; exact hJ3, hnx.2.trans hgr, hnx.1, ⟨hnt.2.trans htr, hnt.1⟩, hnm.2.trans hmr, hnm.1⟩
        case measure => simp [intOf]; omega
      · obtain rfl : k = N := by omega
        gi_wp2
        go_end0
        exact ⟨⟨_, rfl⟩, _, rfl, by rw [List.take_of_length_le (by rw [HN.out]; exact Nat.le_refl _)] at hJs; exact hJs⟩

/-- The iterator's contract, for any body that keeps the transaction and the row of its sectors. -/
theorem each_seq (n : Nat) (hn : 1 ≤ n) {tb p jb m : Nat} {M : Wl} {dn : Bool} (Kp : World → World → Prop) (Q : World → Nat → Prop)
    (hKp : ∀ W1 W' g, Kp W1 W' → Q W1 g → Q W' g ∧ W'.heap[g]? = W1.heap[g]?) (w : World) (h : TxA w tb p jb m M dn) (hM : M.length ≤ 1000000) (hqt : ∀ W', Below w.heap.size w W' → Q W' tb ∧ Q W' m)
    (hQ0 : ∀ W' g cur, Below w.heap.size w W' → w.heap.size ≤ g → W'.heap[g]? = some (.cells cur 3 (0, 0)) → Q W' g) :
    SeqB n Try.prog 79 (.pointer (some ⟨tb, 0, none⟩)) (fun x : Int × ByteArray => #[.int .i64 x.1, .string x.2]) Kp (fun zs => zs = M) M.length w :=
  fun l J W hW hJ hY h0 => each_in n l hn J Kp Q hKp hY W hJ (h.of hW) hM (fun W' hB => hqt W' (hW.trans (hB.mono hW.size))) (fun W' g cur hB hg hc => hQ0 W' g cur (hW.trans (hB.mono hW.size)) (Nat.le_trans hW.size hg) hc) h0
end Go.Proofs.Ytjjphcnoegaimaa
