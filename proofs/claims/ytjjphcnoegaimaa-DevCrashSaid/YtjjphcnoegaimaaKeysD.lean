/- maps.Keys at the sectors' rows; slices.Sorted at int. -/
import Derived.Test.YtjjphcnoegaimaaSeqI
import Derived.Test.YtjjphcnoegaimaaShelf
import Derived.Lib.SlKeysI
import Derived.RangeFuncBound
namespace Go.Proofs.Ytjjphcnoegaimaa
open Go.RowKit Go.Shelf Go.Maps
attribute [local go_sem] Oper.semAt_some

set_option maxRecDepth 100000 in
set_option maxHeartbeats 1000000 in
theorem keys1_in (n l Bm b : Nat) (hn : 1 ≤ n) (L : List (Int × Value)) (J Jx : List Int → World → Prop)
    (hY : ∀ pre x W, J pre W → pre.length < L.length → YieldAt Fence.wide (n - 1) Try.prog l #[.int .i64 x] W fun e W' =>
      (e = .returned (.bool true) ∧ J (pre ++ [x]) W' ∧ KeepsWalks W W') ∨ (e = .returned (.bool false) ∧ Jx (pre ++ [x]) W'))
    (W : World) (hJ : AbidesFrom W.heap.size J) (hm : W.cell? ⟨Bm, 0, none⟩ = some (.map (some b))) (hmap : MapS W b .i64 L) (hL : L.length ≤ maxLen) (h0 : J [] W) :
    CallsIn Fence.wide n Try.prog 105 #[.func (.yield l) #[] #[], .pointer (some ⟨Bm, 0, none⟩)] W fun e W' => (∃ v, e = .returned v) ∧
      ((∃ ss : List Int, ss.Perm (L.map Prod.fst) ∧ J ss W') ∨ (∃ pre : List Int, True ∧ Jx pre W')) := by
  obtain ⟨D0, hown, hD⟩ := hmap.owns Try.underlying3 hL
  have hnd := hmap.nodup
  have HN := Lib.hid hnd
  have HD := Lib.hid hD
  have HL : (L.map Prod.fst).length = L.length := by simp
  clear hmap hnd hD
  refine callsIn_of_wp Try.func105 rfl trivial ?_ rfl
  simp only [Try.ntmps105, List.size_toArray, List.length_cons, List.length_nil, Nat.reduceAdd, Nat.reduceSub, Array.replicate_succ, Array.replicate_zero, List.push_toArray, List.append_toArray, List.nil_append, List.cons_append]
  gi_wp2_with (first | (gi_at_range; refine wpListIn_range_own _ rfl _ 94 rfl 3 103 (int_keyed Try.underlying3) Try.underlying94 anyR b L.length _ rfl hown ?_; intro w0 hrg0 hg0 hs0) | gi_in)
  go_frame
  gi_loopw [3] (fun _ wr => ∃ (left : Lit → Bool) (cnt : Nat) (ss : List Int), wr.ranges Try.prog 3 anyR b W.heap.size L.length D0 left cnt ∧ Came .i64 D0 left ss ∧ J ss wr)
    (fun _ wr => wr.rangeLeft b W.heap.size)
  case atStart => exact ⟨_, _, [], hrg0, Came.start .i64 D0, hJ [] W w0 none h0 hg0 (fun r e => by cases e)⟩
  case round =>
    obtain ⟨left, cnt, ss, hrg, hC, hJs⟩ := hrel
    gi_wp2_with (first | (gi_at_next; refine wpListIn_next_ranges _ rfl _ rfl 3 (int_keyed Try.underlying3) anyR (Value.int .i64) id (fun key kl hk => by obtain ⟨x, hx, _⟩ := keyOf_q Try.underlying3 hk; exact ⟨x, hx⟩) (fun v _ _ => ⟨v, rfl⟩) b W.heap.size L.length _ _ _ rfl hrg ?_ ?_) | gi_in)
    · intro hc0 hl0
      gi_wp2
      go_end0
      exact ⟨⟨_, rfl⟩, .inl ⟨ss, hC.perm HN.out HD.out hl0, hJs⟩⟩
    · intro x c kl yd yp w2 cnt2 hkey hlk hv hat hrg2 hlt hg2 hs2 hen
      obtain ⟨x', ex, rfl, _⟩ := keyOf_q Try.underlying3 hkey
      obtain rfl : x = x' := by simpa using ex
      have hJ2 : J ss w2 := hJ ss wr w2 (some W.heap.size) hJs hg2 (fun r e => by cases e; exact ⟨Nat.le_refl _, hrg.iter_walk⟩)
      have hC2 := hC.step hlk hat
      have hl2 := hC2.len HD.out
      have hl3 : ss.length < L.length := by simp at hl2; omega
      obtain ⟨fn, tmps, assign, body, hy, hR⟩ := hY ss x w2 hJ2 hl3
      clear hs2 hl2
      gi_wp2
      refine hR.mono ?_
      rintro e W3 (⟨rfl, hJ3, hk3⟩ | ⟨rfl, hJx3⟩)
      · gi_wp2
        have hrg3 := hrg2.of_walks hk3
        go_roundw
        case rel => exact ⟨_, cnt2, ss ++ [x], hrg3, hC2, hJ3⟩
        case measure => rw [hrg3.left_eq, hrg.left_eq]; exact hlt
      · gi_wp2
        refine bodyPost_ret (results_none rfl _ _ _) rfl ?_
        exact ⟨⟨_, rfl⟩, .inr ⟨_, trivial, hJx3⟩⟩

theorem keys_in (n : Nat) (mb : Option Nat) (w : World) :
    CallsIn Fence.wide n Try.prog 88 #[.map mb] w fun e w' => e = .returned (.func (.func 105) #[] #[.pointer (some ⟨w.heap.size, 0, none⟩)]) ∧ w.alloc (.cells #[.map mb] 94) = w' := by
  refine callsIn_of_wp Try.func88 rfl trivial ?_ rfl
  simp only [Try.ntmps88, List.size_toArray, List.length_cons, List.length_nil, Nat.reduceAdd, Nat.reduceSub, Array.replicate_succ, Array.replicate_zero, List.push_toArray, List.append_toArray, List.nil_append, List.cons_append]
  gi_wp2
  go_ret
  exact ⟨rfl, rfl⟩

theorem keys_stops (n : Nat) (hn : 1 ≤ n) (Bm b B : Nat) (L : List (Int × Value)) (hL : L.length ≤ maxLen) (w : World) (hBm : Bm < w.heap.size)
    (hm : w.cell? ⟨Bm, 0, none⟩ = some (.map (some b))) (hmap : MapS w b .i64 L) :
    SeqStopsK Fence.wide n Try.prog 105 #[.pointer (some ⟨Bm, 0, none⟩)] (fun x : Int => #[Value.int .i64 x]) (ApKp B) (fun ss => ss.Perm (L.map Prod.fst)) (fun _ => True) L.length w :=
  fun l J Jx W hW hJ _ hY h0 => keys1_in n l Bm b hn L J Jx (fun pre x W1 h1 h2 => YieldAt.mono (hY pre x W1 h1 h2) (fun _ _ h => h.imp (fun ⟨a, b, c⟩ => ⟨a, b, c.walks⟩) id)) W hJ ((hW.cell (p := ⟨Bm, 0, none⟩) hBm).trans hm) (hmap.of_block (hW.block b hmap.lt)) hL h0

set_option maxHeartbeats 1000000 in
/-- slices.Sorted(seq). -/
theorem sorted_gen {gf : Nat} {lb : Array Value} {K : List Int} {N : Nat} (hN : N ≤ 1000000) (hK : K.length ≤ 1000000) (w : World) (eg : ∀ args w, (Go.callFunc gf args).run Try.prog w = .ok (.enter gf args) w)
    (hseq : SeqStopsK Fence.wide 8 Try.prog gf lb (fun x : Int => #[Value.int .i64 x]) (ApKp w.heap.size) (fun ss => ss.Perm K) (fun _ => True) N (w.alloc (.cells #[.slice none 0 0] 38))) :
    Calls Try.prog 87 #[.func (.func gf) #[] lb] w fun e w' => ∃ (v : Value) (ts : List Int), e = .returned v ∧ ts = K.mergeSort (fun x y => decide (x ≤ y)) ∧
      w'.ownsRow w.heap.size 3 1 v ts.length (ts.map (Value.int .i64)) ∧ Below w.heap.size w w' := by
  have HS := Lib.hid hseq
  clear hseq
  go_enter Try.func87, Try.ntmps87
  go_wp2_with fail
  refine (collect_gen hN w eg HS.out).mono ?_
  rintro e w1 ⟨v, ss, rfl, hp, hrow, hnil, hB⟩
  have hlen : ss.length ≤ 1000000 := by rw [hp.length_eq]; exact hK
  have hms : K.mergeSort (fun x y => decide (x ≤ y)) = ss.mergeSort (fun x y => decide (x ≤ y)) := (mergeSort_of_perm_i hp).symm
  have HM := Lib.hid hms
  clear hms
  rcases hrow.2 with ⟨rfl, h0⟩ | ⟨g, cap, cur, rfl, hg, hb, r1, r2, r3, r4⟩
  · obtain rfl : ss = [] := List.eq_nil_of_length_eq_zero h0
    go_wp2_with fail
    refine (Try.slices_Sort_int_none none 0 w1).mono ?_
    rintro e w2 ⟨rfl, rfl⟩
    go_wp2_with fail
    go_ret
    exact ⟨_, [], rfl, by rw [HM.out]; simp, hrow, hB⟩
  · have hH := holds_of_block_i hb (by simpa using r4)
    have hgl := blk_lt hb
    have hS := Try.slices_Sort_int g 0 cap ss w1 hH hgl (by omega)
    have HS2 := Lib.hid hS
    have HR := Lib.hid r3
    clear hS hH hrow r3 r4
    have HB := Lib.hid hb
    clear hb
    go_wp2_with fail
    refine HS2.out.mono ?_
    rintro e w2 ⟨rfl, n, os, rfl⟩
    go_wp2_with fail
    go_ret
    have e1 : (ss.mergeSort (fun x y => decide (x ≤ y))).length = ss.length := List.length_mergeSort _
    refine ⟨_, _, rfl, HM.out.symm, ?_, hB.grown (grownBy_sorted_i _) hB.size (fun j hj => by cases hj; exact hg)⟩
    rw [e1]
    exact ownsRow_sorted_i e1 hg HB.out r1 r2 HR.out
end Go.Proofs.Ytjjphcnoegaimaa
