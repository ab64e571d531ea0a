/- lunettelaw04.sectors, same; lunetteref04.Laid. -/
import Derived.Test.YtjjphcnoegaimaaJRef04
namespace Go.Proofs.Ytjjphcnoegaimaa
open Go.RowKit Go.Shelf Go.Maps
set_option maxRecDepth 20000
set_option linter.unusedVariables false

/-- A row of texts of the call's own. -/
structure TxI (W : World) (L : List ByteArray) (v : Value) (wr : World) : Prop where
  row : wr.ownsRow W.heap.size 9 1 v L.length (sv L)
  below : Below W.heap.size W wr
section
variable {w0 w W W' W1 : World} {X : Nat → Prop} {p jb N B fr n g r : Nat} {s : DS} {L : List ByteArray} {v v' : Value} {wr w1 : World}
theorem TxI.of (h : TxI W L v wr) (hB : Below wr.heap.size wr w1) : TxI W L v w1 := by
  refine ⟨?_, bt h.below hB⟩
  obtain ⟨hl, hr⟩ := h.row
  refine ⟨hl, ?_⟩
  rcases hr with h' | ⟨g, cap, cur, rfl, h0, hh, hr⟩
  · exact .inl h'
  · exact .inr ⟨g, cap, cur, rfl, h0, (hB.block g (blk_lt hh)).trans hh, hr⟩
theorem TxI.step (h : TxI W L v wr) {b : ByteArray} (hown : w1.ownsRow W.heap.size 9 1 v' (L.length + 1) (sv L ++ [.string b])) (hg : wr.grownBy w1 v.ownBlock) : TxI W (L ++ [b]) v' w1 := by
  refine ⟨?_, h.below.grown hg h.below.size (fun g e => ?_)⟩
  · rw [List.length_append]
    have e : sv (L ++ [b]) = sv L ++ [Value.string b] := by simp [sv]
    rw [e]
    exact hown
  · rcases h.row.2 with ⟨rfl, _⟩ | ⟨g', c, cur, rfl, h0, _⟩
    · cases e
    · cases e; exact h0
/-- Where a row of texts lies, and its cells. -/
def TxAt (W : World) (v : Value) (L : List ByteArray) (Y : Nat → Prop) : Prop := ∃ ao cap, v = .slice ao L.length cap ∧ (0 < L.length → ∃ g, ao = some ⟨g, 0, none⟩ ∧ Y g ∧ g < W.heap.size ∧ ∀ j, j < L.length → W.cell? ⟨g, j, none⟩ = some (.string (L.getD j ByteArray.empty)))
theorem TxI.at (h : TxI W L v wr) : TxAt wr v L (fun g => W.heap.size ≤ g) := by
  obtain ⟨hl, hr⟩ := h.row
  rcases hr with ⟨rfl, h0⟩ | ⟨g, cap, cur, rfl, h0, hh, hr⟩
  · refine ⟨none, 0, by rw [h0], fun hp => by omega⟩
  · exact ⟨_, _, rfl, fun hp => ⟨g, rfl, h0, blk_lt hh, fun j hj => ownsRow_cell (ownsRow_base h.row) rfl (by simp [sv, List.getD_eq_getElem?_getD, hj])⟩⟩
theorem TxAt.keep {Y : Nat → Prop} (h : TxAt W v L Y) (hk : ∀ k, Y k → k < W.heap.size → W'.heap[k]? = W.heap[k]?) : TxAt W' v L Y := by
  obtain ⟨ao, cap, rfl, hc⟩ := h
  refine ⟨ao, cap, rfl, fun hp => ?_⟩
  obtain ⟨g, rfl, hy, hg, hcell⟩ := hc hp
  have hb := hk g hy hg
  refine ⟨g, rfl, hy, ?_, fun j hj => (World.cell?_of_block (w := W) hb).trans (hcell j hj)⟩
  have := Array.getElem?_eq_getElem hg
  rw [← hb] at this
  exact blk_lt this
theorem TxAt.weak {Y Z : Nat → Prop} (h : TxAt W v L Y) (hz : ∀ k, Y k → k < W.heap.size → Z k) : TxAt W v L Z := by
  obtain ⟨ao, cap, rfl, hc⟩ := h
  refine ⟨ao, cap, rfl, fun hp => ?_⟩
  obtain ⟨g, e, hy, hg, hcell⟩ := hc hp
  exact ⟨g, e, hz g hy hg, hg, hcell⟩

/-- All sectors, but an area. -/
def secL (f : Nat → ByteArray) (fr n N : Nat) : List ByteArray := (List.range N).map fun i => if fr ≤ i ∧ i < fr + n then ByteArray.empty else f i
theorem secL_length (f : Nat → ByteArray) (fr n N : Nat) : (secL f fr n N).length = N := by simp [secL]
theorem secL_succ (f : Nat → ByteArray) (fr n k : Nat) : secL f fr n (k + 1) = secL f fr n k ++ [if fr ≤ k ∧ k < fr + n then ByteArray.empty else f k] := by simp [secL, List.range_succ]
theorem secL_get (f : Nat → ByteArray) (fr n N i : Nat) (h : i < N) : (secL f fr n N).getD i ByteArray.empty = if fr ≤ i ∧ i < fr + n then ByteArray.empty else f i := by simp [secL, List.getD_eq_getElem?_getD, h]
theorem o_readb (h : DvO w0 X p s W) (hN : s.hard.length = N) (hd : s.dead = false) (i : Nat) (hi : i < N) : Calls Try.prog 20 #[.pointer (some ⟨p, 0, none⟩), .int .i64 i] W fun e W' =>
    e = .returned (.tuple #[.string (newest s i), .int .i64 0]) ∧ Below W.heap.size W W' := by
  obtain ⟨hb, hc, m, L, h1, h2⟩ := h.dev
  exact dev_read h1 hd i (by rw [hN]; exact hi)

set_option maxHeartbeats 4000000 in
theorem sectors_any (h : DvO w0 X p s W) (hN : s.hard.length = N) (hN2 : N ≤ 4096) (hd : s.dead = false) (hfr : fr ≤ 4096) (hn : n ≤ 4096) : Calls Try.prog 33 #[.pointer (some ⟨p, 0, none⟩), .int .i64 fr, .int .i64 n] W fun e W' => ∃ v, e = .returned v ∧ TxI W (secL (newest s) fr n N) v W' := by
  obtain ⟨i0, ii, hz0, hz1, hz2⟩ := infoStr
  have HH := Lib.hid h
  have hs : IntKind.i64.wrap ((fr : Int) + (n : Int)) = (fr : Int) + (n : Int) := i64_sm (by omega) (by omega)
  clear h
  go_enter Try.func33, Try.ntmps33
  go_wp2_with fail
  go_loopw [7, 8, 9, 10] (fun v7 v8 _ _ wr => ∃ k : Nat, k ≤ N ∧ v8 = .int .i64 k ∧ TxI W (secL (newest s) fr n k) v7 wr) (fun _ v8 _ _ _ => N - (intOf v8).toNat)
  case atStart => exact ⟨0, Nat.zero_le _, rfl, World.ownsRow_nil _ _ _ _, Below.refl _ _⟩
  case round =>
    obtain ⟨k, hk, rfl, hI⟩ := hrel
    have hlenc := o_len (HH.out.of hI.below) hN
    have HLC := Lib.hid hlenc
    by_cases hlt : k < N
    · have dk : decide (k < N) = true := decide_eq_true hlt
      have hrd := o_readb (HH.out.of hI.below) hN hd k hlt
      have HRD := Lib.hid hrd
      have hsu := secL_succ (newest s) fr n k
      have HSU := Lib.hid hsu
      have hLk := secL_length (newest s) fr n k
      have HLK := Lib.hid hLk
      have HI := Lib.hid hI
      have h63 : (secL (newest s) fr n k).length + 1 ≤ maxLen := by rw [hLk]; unfold maxLen; omega
      have hby : ((secL (newest s) fr n k).length + 1) * 16 ≤ 140737488355328 := by rw [hLk]; omega
      generalize newest s k = b at *
      generalize secL (newest s) fr n k = L at *
      clear hlenc hrd hsu hLk hI
      have hin : fr ≤ k ∧ k < fr + n ∨ ¬ (fr ≤ k) ∨ (fr ≤ k ∧ ¬ (k < fr + n)) := by omega
      have hfin : ∀ (bb : ByteArray) (w2 : World), Below wr.heap.size wr w2 → w2.heap.size = w2.heap.size ∧ TxI W L u7 (w2.alloc (.cells #[.string bb] 9)) := fun bb w2 hB => ⟨rfl, (HI.out.of hB).of (bnew _ _)⟩
      have HF := Lib.hid hfin
      clear hfin
      rcases hin with ⟨h1, h2⟩ | h1 | ⟨h1, h2⟩
      · have e1 : decide ((k : Int) ≥ (fr : Int)) = true := decide_eq_true (by omega)
        have e1' : decide (fr ≤ k) = true := decide_eq_true h1
        have e2 : decide ((k : Int) < (fr : Int) + (n : Int)) = true := decide_eq_true (by omega)
        have hq : (if fr ≤ k ∧ k < fr + n then ByteArray.empty else b) = ByteArray.empty := if_pos ⟨h1, h2⟩
        have HQ := Lib.hid hq
        clear hq h1 h2
        go_wp2_with fail
        refine HLC.out.mono ?_
        rintro e w2 ⟨rfl, rfl⟩
        go_wp2_with fail
        refine HRD.out.mono ?_
        rintro e w2 ⟨rfl, hB⟩
        have hT := (HF.out ByteArray.empty w2 hB).2
        have hone : ∀ u ∈ [Value.string ByteArray.empty], u.oneCell' = true := by simp [Value.oneCell']
        have hL5 : W.heap.size ≤ (w2.alloc (.cells #[.string ByteArray.empty] 9)).heap.size := hT.below.size
        have HT := Lib.hid hT
        clear hT hB
        go_wp2_with (at_builtin; refine wpList_append_own _ rfl _ _ 42 rfl W.heap.size 9 i0 (.string ByteArray.empty) 1 16 Try.underlying42 ii hz0 hz1 hz2 rfl (by decide) _ L.length (sv L) rfl HT.out.row ⟨w2.heap.size, 0, none⟩ 1 1 [.string ByteArray.empty] rfl rfl (World.news_of_block (hp_new _ _ rfl)) hone h63 hby hL5 ?_; intro v' w5 hown' hgrow _)
        have HST := Lib.hid (TxI.step HT.out hown' hgrow)
        clear hown' hgrow
        go_wp2_with fail
        go_roundw
        case rel => exact ⟨k + 1, by omega, by go_num, by rw [HSU.out, HQ.out]; exact HST.out⟩
        case measure => simp [intOf]; omega
      · have e1 : decide ((k : Int) ≥ (fr : Int)) = false := decide_eq_false (by omega)
        have e1' : decide (fr ≤ k) = false := decide_eq_false h1
        have hq : (if fr ≤ k ∧ k < fr + n then ByteArray.empty else b) = b := if_neg (fun e => h1 e.1)
        have HQ := Lib.hid hq
        clear hq h1
        go_wp2_with fail
        refine HLC.out.mono ?_
        rintro e w2 ⟨rfl, rfl⟩
        go_wp2_with fail
        refine HRD.out.mono ?_
        rintro e w2 ⟨rfl, hB⟩
        have hT := (HF.out b w2 hB).2
        have hone : ∀ u ∈ [Value.string b], u.oneCell' = true := by simp [Value.oneCell']
        have hL5 : W.heap.size ≤ (w2.alloc (.cells #[.string b] 9)).heap.size := hT.below.size
        have HT := Lib.hid hT
        clear hT hB
        go_wp2_with (at_builtin; refine wpList_append_own _ rfl _ _ 42 rfl W.heap.size 9 i0 (.string ByteArray.empty) 1 16 Try.underlying42 ii hz0 hz1 hz2 rfl (by decide) _ L.length (sv L) rfl HT.out.row ⟨w2.heap.size, 0, none⟩ 1 1 [.string b] rfl rfl (World.news_of_block (hp_new _ _ rfl)) hone h63 hby hL5 ?_; intro v' w5 hown' hgrow _)
        have HST := Lib.hid (TxI.step HT.out hown' hgrow)
        clear hown' hgrow
        go_wp2_with fail
        go_roundw
        case rel => exact ⟨k + 1, by omega, by go_num, by rw [HSU.out, HQ.out]; exact HST.out⟩
        case measure => simp [intOf]; omega
      · have e1 : decide ((k : Int) ≥ (fr : Int)) = true := decide_eq_true (by omega)
        have e1' : decide (fr ≤ k) = true := decide_eq_true h1
        have e2 : decide ((k : Int) < (fr : Int) + (n : Int)) = false := decide_eq_false (by omega)
        have hq : (if fr ≤ k ∧ k < fr + n then ByteArray.empty else b) = b := if_neg (fun e => h2 e.2)
        have HQ := Lib.hid hq
        clear hq h1 h2
        go_wp2_with fail
        refine HLC.out.mono ?_
        rintro e w2 ⟨rfl, rfl⟩
        go_wp2_with fail
        refine HRD.out.mono ?_
        rintro e w2 ⟨rfl, hB⟩
        have hT := (HF.out b w2 hB).2
        have hone : ∀ u ∈ [Value.string b], u.oneCell' = true := by simp [Value.oneCell']
        have hL5 : W.heap.size ≤ (w2.alloc (.cells #[.string b] 9)).heap.size := hT.below.size
        have HT := Lib.hid hT
        clear hT hB
        go_wp2_with (at_builtin; refine wpList_append_own _ rfl _ _ 42 rfl W.heap.size 9 i0 (.string ByteArray.empty) 1 16 Try.underlying42 ii hz0 hz1 hz2 rfl (by decide) _ L.length (sv L) rfl HT.out.row ⟨w2.heap.size, 0, none⟩ 1 1 [.string b] rfl rfl (World.news_of_block (hp_new _ _ rfl)) hone h63 hby hL5 ?_; intro v' w5 hown' hgrow _)
        have HST := Lib.hid (TxI.step HT.out hown' hgrow)
        clear hown' hgrow
        go_wp2_with fail
        go_roundw
        case rel => exact ⟨k + 1, by omega, by go_num, by rw [HSU.out, HQ.out]; exact HST.out⟩
        case measure => simp [intOf]; omega
    · have dk : decide (k < N) = false := decide_eq_false hlt
      obtain rfl : k = N := by omega
      clear hlenc
      go_wp2_with fail
      refine HLC.out.mono ?_
      rintro e w2 ⟨rfl, rfl⟩
      go_wp2_with fail
      go_ret
      exact ⟨_, rfl, hI⟩

set_option maxHeartbeats 4000000 in
/-- The same sectors, but in the area. -/
theorem same04_yes {Y Z : Nat → Prop} {va vb : Value} {A B : List ByteArray} (ha : TxAt W va A Y) (hb : TxAt W vb B Z) (hl : A.length = B.length) (hfr : fr ≤ 4096) (hn : n ≤ 4096) (hAl : A.length ≤ 100000) (hs : ∀ i, i < A.length → ¬ (fr ≤ i ∧ i < fr + n) → A.getD i ByteArray.empty = B.getD i ByteArray.empty) :
    Calls Try.prog 35 #[va, vb, .int .i64 fr, .int .i64 n] W fun e W' => e = .returned (.bool true) ∧ Below W.heap.size W W' := by
  obtain ⟨ao, cap, rfl, hca⟩ := ha
  obtain ⟨bo, bcap, rfl, hcb⟩ := hb
  rw [← hl] at hcb ⊢
  have HA := Lib.hid hca
  have HB := Lib.hid hcb
  have HS := Lib.hid hs
  have hsum : IntKind.i64.wrap ((fr : Int) + (n : Int)) = (fr : Int) + (n : Int) := i64_sm (by omega) (by omega)
  clear hca hcb hl hs
  go_enter Try.func35, Try.ntmps35
  go_wp2_with fail
  go_loopw [9] (fun v9 wr => ∃ k : Nat, k ≤ A.length ∧ v9 = .int .i64 k ∧ Below W.heap.size W wr) (fun v9 _ => A.length - (intOf v9).toNat)
  case atStart => exact ⟨0, Nat.zero_le _, rfl, Below.refl _ _⟩
  case round =>
    obtain ⟨k, hk, rfl, hBr⟩ := hrel
    by_cases hlt : k < A.length
    · obtain ⟨ga, rfl, -, hga, hc1⟩ := HA.out (by omega)
      obtain ⟨gb, rfl, -, hgb, hc2⟩ := HB.out (by omega)
      have d1 := (hBr.cell (p := ⟨ga, k, none⟩) hga).trans (hc1 k hlt)
      have d2 := (hBr.cell (p := ⟨gb, k, none⟩) hgb).trans (hc2 k hlt)
      have hsk := HS.out k hlt
      have HBr := Lib.hid hBr
      clear hc1 hc2 hBr
      generalize A.getD k ByteArray.empty = a1 at *
      generalize B.getD k ByteArray.empty = b1 at *
      by_cases he : a1 = b1
      · subst he
        have e0 : (a1.toList == a1.toList) = true := by simp
        clear hsk
        go_wp2_with fail
        go_quiet (fail)
        go_wp2_with fail
        go_roundw
        case rel => exact ⟨k + 1, by omega, by go_num, drewn_b HBr.out nq⟩
        case measure => simp [intOf]; omega
      · have hin : fr ≤ k ∧ k < fr + n := Decidable.of_not_not (fun e => he (hsk e))
        have e0 : (a1.toList == b1.toList) = false := by
          apply beq_false_of_ne
          intro e
          apply he
          rw [Go.ByteArray.toList_eq, Go.ByteArray.toList_eq] at e
          cases a1; cases b1
          simp only at e
          rw [Array.toList_inj.1 e]
        have e1 : decide ((k : Int) < (fr : Int)) = false := decide_eq_false (by omega)
        have e1' : decide (k < fr) = false := decide_eq_false (by omega)
        have e2 : decide ((k : Int) ≥ (fr : Int) + (n : Int)) = false := decide_eq_false (by omega)
        clear hsk hin he
        go_wp2_with fail
        go_quiet (fail)
        go_wp2_with fail
        go_roundw
        case rel => exact ⟨k + 1, by omega, by go_num, drewn_b HBr.out nq⟩
        case measure => simp [intOf]; omega
    · obtain rfl : k = A.length := by omega
      go_wp2_with fail
      go_ret
      exact ⟨rfl, hBr⟩

/-- Sectors' texts behind a transaction. -/
def laidL (S : List ByteArray) (l : Puts) : List ByteArray := l.foldl (fun S x => S.set x.1 x.2) S
theorem laidL_length (l : Puts) : ∀ S, (laidL S l).length = S.length := by
  induction l with
  | nil => intro S; rfl
  | cons x l ih => intro S; rw [laidL, List.foldl_cons, ← laidL, ih, List.length_set]
theorem laidL_get (l : Puts) : ∀ (S : List ByteArray) (f : Nat → ByteArray), (∀ x ∈ l, x.1 < S.length) → ∀ i, i < S.length → S.getD i ByteArray.empty = f i → (∀ j, j < S.length → S.getD j ByteArray.empty = f j) → (laidL S l).getD i ByteArray.empty = laid f l i := by
  induction l with
  | nil => intro S f _ i _ h _; exact h
  | cons x l ih =>
    intro S f hx i hi h hall
    rw [laidL, List.foldl_cons, ← laidL, laid_cons]
    have hset : ∀ j, j < (S.set x.1 x.2).length → (S.set x.1 x.2).getD j ByteArray.empty = (fun i => if i = x.1 then x.2 else f i) j := by
      intro j hj
      rw [List.length_set] at hj
      show _ = if j = x.1 then x.2 else f j
      by_cases e : j = x.1
      · subst e
        rw [if_pos rfl, List.getD_eq_getElem?_getD, List.getElem?_set_self hj]
        rfl
      · rw [if_neg e, List.getD_eq_getElem?_getD, List.getElem?_set_ne (fun y => e y.symm), ← List.getD_eq_getElem?_getD]
        exact hall j hj
    exact ih _ _ (fun y hy => by rw [List.length_set]; exact hx y (by simp [hy])) i (by rw [List.length_set]; exact hi) (hset i (by rw [List.length_set]; exact hi)) hset
theorem laidL_snoc (S : List ByteArray) (l : Puts) (k : Nat) (h : k < l.length) : laidL S (l.take (k + 1)) = (laidL S (l.take k)).set l[k].1 l[k].2 := by
  rw [List.take_succ_eq_append_getElem h, laidL, List.foldl_append]
  rfl
structure LdI (W : World) (L : List ByteArray) (g cap : Nat) (wr : World) : Prop where
  row : wr.ownsRow 0 9 1 (.slice (some ⟨g, 0, none⟩) L.length cap) L.length (sv L)
  ge : W.heap.size ≤ g
  below : Below W.heap.size W wr
theorem LdI.drew {g cap : Nat} (h : LdI W L g cap wr) : LdI W L g cap wr.drew := ⟨h.row, h.ge, h.below.drew⟩
theorem sv_set (L : List ByteArray) (i : Nat) (b : ByteArray) : (sv L).set i (.string b) = sv (L.set i b) := by simp [sv, List.map_set]
theorem LdI.set {g cap : Nat} (h : LdI W L g cap wr) (i : Nat) (b : ByteArray) : LdI W (L.set i b) g cap (wr.setCell ⟨g, i, none⟩ (.string b)) := by
  refine ⟨?_, h.ge, h.below.setCell h.ge _⟩
  have := ownsRow_set h.row i (.string b)
  rw [sv_set] at this
  rw [List.length_set]
  exact this
theorem LdI.fz {g cap : Nat} (h : LdI W L g cap wr) (i : Nat) (hi : i < L.length) : wr.frozen? ⟨g, i, none⟩ = false ∧ ∃ u, wr.cell? ⟨g, i, none⟩ = some u := by
  obtain ⟨cur, hb⟩ := ownsRow_type h.row rfl
  exact ⟨fz_of hb i, _, ownsRow_cell h.row rfl (by simp [sv, hi] : (sv L)[i]? = some (.string L[i]))⟩

set_option maxHeartbeats 4000000 in
theorem laid_any {Y : Nat → Prop} {va vl : Value} {S : List ByteArray} (l : Puts) (ha : TxAt W va S Y) (hS : 0 < S.length) (hS2 : S.length ≤ 4096) (hl : SlP w0 X W vl (zP l)) (hX : ∀ k, (k < w0.heap.size ∨ X k) → k < W.heap.size) (hll : l.length ≤ 4096) (hx : ∀ x ∈ l, x.1 < S.length) :
    Calls Try.prog 43 #[va, vl] W fun e W' => ∃ g cap, e = .returned (.slice (some ⟨g, 0, none⟩) S.length cap) ∧ LdI W (laidL S l) g cap W' := by
  obtain ⟨i0, ii, hz0, hz1, hz2⟩ := infoStr
  obtain ⟨ao, cap, rfl, hca⟩ := ha
  obtain ⟨ga, rfl, -, hga, hc1⟩ := hca hS
  obtain ⟨lo, lcap, rfl, hval⟩ := hl
  rw [zP_length] at hval ⊢
  have HV := Lib.hid hval
  have hnews : ∀ j u, (sv S)[j]? = some u → W.cell? (Addr.add ⟨ga, 0, none⟩ j) = some u := by
    intro j u hj
    have hjl : j < S.length := by
      rcases Nat.lt_or_ge j S.length with h | h
      · exact h
      · rw [List.getElem?_eq_none (by simpa [sv] using h)] at hj; cases hj
    have : u = .string (S.getD j ByteArray.empty) := by
      simp [sv, hjl] at hj
      rw [← hj]
      simp [List.getD_eq_getElem?_getD, hjl]
    rw [this, Addr.add_lit, Nat.zero_add]
    exact hc1 j hjl
  have hone : ∀ u ∈ sv S, u.oneCell' = true := by
    intro u hu
    obtain ⟨b, _, rfl⟩ := List.mem_map.1 hu
    rfl
  have h63 : 0 + S.length ≤ maxLen := by unfold maxLen; omega
  have hby : (0 + S.length) * 16 ≤ 140737488355328 := by omega
  have hsl : (sv S).length = S.length * 1 := by simp [sv]
  clear hca hval
  go_enter Try.func43, Try.ntmps43
  go_wp2_with (at_builtin; refine wpList_append_own _ rfl _ _ 42 rfl W.heap.size 9 i0 (.string ByteArray.empty) 1 16 Try.underlying42 ii hz0 hz1 hz2 rfl (by decide) _ 0 [] rfl (World.ownsRow_nil _ _ _ _) ⟨ga, 0, none⟩ S.length cap (sv S) rfl hsl hnews hone h63 hby (Nat.le_refl _) ?_; intro v' w5 hown' hgrow _)
  rw [Nat.zero_add, List.nil_append] at hown'
  obtain ⟨g, gcap, rfl, hst⟩ : ∃ g gcap, v' = .slice (some ⟨g, 0, none⟩) S.length gcap ∧ LdI W S g gcap w5 := by
    rcases hown'.2 with ⟨rfl, h0⟩ | ⟨g, c, cur, rfl, h0, hh, hr⟩
    · omega
    · exact ⟨g, c, rfl, ownsRow_base hown', h0, (Below.refl _ _).grown hgrow (Nat.le_refl _) (fun k e => by cases e)⟩
  have HST := Lib.hid hst
  clear hown' hgrow hst hnews hone h63 hby hsl hc1
  go_wp2_with fail
  go_loopw [6] (fun v6 wr => ∃ k : Nat, k ≤ l.length ∧ v6 = .int .i64 k ∧ LdI W (laidL S (l.take k)) g gcap wr) (fun v6 _ => l.length - (intOf v6).toNat)
  case atStart => exact ⟨0, Nat.zero_le _, rfl, HST.out⟩
  case round =>
    obtain ⟨k, hk, rfl, hI⟩ := hrel
    by_cases hlt : k < l.length
    · obtain ⟨b, off, rfl, hb, hc⟩ := HV.out (by omega)
      obtain ⟨c0, c1⟩ := hc k hlt
      rw [zP_get l k hlt] at c0 c1
      have hbl := hX b hb
      have d0 := (hI.below.cell (p := ⟨b, off + k * 2, none⟩) hbl).trans c0
      have d1 := (hI.below.cell (p := ⟨b, off + k * 2 + 1, none⟩) hbl).trans c1
      have hsn := laidL_snoc S l k hlt
      have HSN := Lib.hid hsn
      have hxk := hx l[k] (List.getElem_mem hlt)
      have hlen := laidL_length (l.take k) S
      generalize laidL S (l.take k) = L at *
      generalize l[k] = x at *
      obtain ⟨i, dat⟩ := x
      dsimp only at d0 d1 hxk HSN
      obtain ⟨fz, u, hu⟩ := hI.fz i (by omega)
      have HI := Lib.hid (hI.set i dat)
      have hgb : g ≠ b := by have := hI.ge; omega
      have HG := hI.ge
      clear hsn hc c0 c1 hI hlen
      go_wp2_with fail
      go_region
      all_goals
        go_wp2_with fail
        go_roundw
        case rel => exact ⟨k + 1, by omega, by go_num, by rw [HSN.out]; exact HI.out.drew⟩
        case measure => simp [intOf]; omega
    · obtain rfl : k = l.length := by omega
      rw [List.take_of_length_le (Nat.le_refl _)] at hI
      go_wp2_with fail
      go_ret
      exact ⟨_, _, rfl, hI⟩
end
end Go.Proofs.Ytjjphcnoegaimaa
