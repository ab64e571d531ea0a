/- lunettelaw08.full, Made. lunettelaw08.Made, sectors, outside. -/
import Derived.Test.YtjjphcnoegaimaaGreatGN
import Derived.Test.YtjjphcnoegaimaaGreatGF
import Derived.Test.YtjjphcnoegaimaaGreatGO
namespace Go.Proofs.YtjjphcnoegaimaaGreat
open Go.RowKit Go.Shelf Go.Maps
set_option maxRecDepth 20000
set_option linter.unusedVariables false

/-- A text, again and again: its first k bytes; noughts behind. -/
def fillB (s : ByteArray) (k : Nat) : List UInt8 := (List.range 64).map fun i => if i < k ∧ 0 < s.size then s.data.toList.getD (i % s.size) 0 else 0
def fullB (s : ByteArray) : ByteArray := bs (fillB s 64)
theorem fillB_length (s : ByteArray) (k : Nat) : (fillB s k).length = 64 := by simp [fillB]
theorem fullB_size (s : ByteArray) : (fullB s).size = 64 := by rw [fullB, bs_size, fillB_length]
theorem fillB_zero (s : ByteArray) : fillB s 0 = zeros 64 := by
  apply List.ext_getElem
  · simp [fillB_length, zeros]
  · intro i h1 h2
    rw [show (zeros 64)[i] = 0 from List.eq_of_mem_replicate (n := 64) (List.getElem_mem h2)]
    simp [fillB]
theorem fillB_none (s : ByteArray) (h : s.size = 0) (k : Nat) : fillB s k = zeros 64 := by
  apply List.ext_getElem
  · simp [fillB_length, zeros]
  · intro i h1 h2
    rw [show (zeros 64)[i] = 0 from List.eq_of_mem_replicate (n := 64) (List.getElem_mem h2)]
    simp [fillB, h]
theorem fillB_step (s : ByteArray) (k : Nat) (hk : k < 64) (hs : 0 < s.size) (b : Nat) (hb : (s.data.toList.getD (k % s.size) 0).toNat = b) : (bc (fillB s k)).setIfInBounds k (.int .u8 (b : Int)) = bc (fillB s (k + 1)) := by
  subst hb
  rw [bc_set]
  congr 1
  apply List.ext_getElem
  · simp [fillB_length]
  · intro i h1 h2
    rw [fillB_length] at h2
    rw [List.getElem_set]
    by_cases e : k = i
    · subst e
      rw [if_pos rfl]
      simp [fillB, hs]
    · rw [if_neg e]
      simp only [fillB, List.getElem_map, List.getElem_range]
      by_cases h : i < k
      · rw [if_pos ⟨h, hs⟩, if_pos ⟨by omega, hs⟩]
      · rw [if_neg (fun x => h x.1), if_neg (fun x => by omega)]

set_option maxHeartbeats 1000000 in
theorem full_any (s : ByteArray) (hsz : s.size ≤ maxLen) (w : World) : Calls Tryz.prog 38 #[.string s] w fun e w' => e = .returned (.string (fullB s)) ∧ Below w.heap.size w w' := by
  have hmk : (Instr.makeSlice 137 (.int .i64 64) (.int .i64 64)).run Tryz.prog w = .ok (.slice (some ⟨w.heap.size, 0, none⟩) 64 64) (w.alloc (.cells (bc (zeros 64)) 5)) := make_zeros 64 (by decide) w
  have hcv := conv_new (fillB s 64) 64 (fillB_length s 64) w
  unfold maxLen at hsz
  by_cases h0 : s.size = 0
  · have e0 : s.toList.isEmpty = true := by
      have : s = ByteArray.empty := by
        apply ByteArray.ext
        exact Array.eq_empty_of_size_eq_zero h0
      rw [this, Go.ByteArray.toList_eq]; rfl
    rw [fillB_none s h0] at hcv
    have hfb : fullB s = bs (zeros 64) := by rw [fullB, fillB_none s h0]
    have HF := Lib.hid hfb
    clear hfb
    go_enter Tryz.func38, Tryz.ntmps38
    go_wp2_with fail
    go_loopw [4] (fun v4 wr => v4 = .int .i64 0 ∧ wr = w.alloc (.cells (bc (zeros 64)) 5)) (fun _ _ => 0)
    case atStart => exact ⟨rfl, rfl⟩
    case round =>
      obtain ⟨rfl, rfl⟩ := hrel
      go_wp2_with fail
      go_ret
      exact ⟨by rw [HF.out]; rfl, bnew _ _⟩
  · have hpos : 0 < s.size := by omega
    have e0 : s.toList.isEmpty = false := by
      have : s.toList ≠ [] := by
        intro e
        rw [Go.ByteArray.toList_eq] at e
        have e2 : s.data.toList.length = 0 := by rw [e]; rfl
        rw [Array.length_toList] at e2
        exact h0 e2
      simpa using this
    have hfb : fullB s = bs (fillB s 64) := rfl
    have HF := Lib.hid hfb
    clear hfb
    go_enter Tryz.func38, Tryz.ntmps38
    go_wp2_with fail
    go_loopw [4] (fun v4 wr => ∃ k : Nat, k ≤ 64 ∧ v4 = .int .i64 k ∧ wr = w.alloc (.cells (bc (fillB s k)) 5)) (fun v4 _ => 64 - (intOf v4).toNat)
    case atStart => exact ⟨0, by omega, rfl, by rw [fillB_zero]⟩
    case round =>
      obtain ⟨k, hk, rfl, rfl⟩ := hrel
      by_cases hlt : k < 64
      · have hst := fillB_step s k hlt hpos
        have hkm : k % s.size < s.size := Nat.mod_lt k hpos
        have hcell : ((w.alloc (.cells (bc (fillB s k)) 5)).cell? ⟨w.heap.size, k, none⟩) = some (.int .u8 ((fillB s k)[k]'(by rw [fillB_length]; exact hlt)).toNat) := by rw [cl_of (hp_new w _ rfl), bc_get (by rw [fillB_length]; exact hlt)]
        obtain ⟨q, hq⟩ : ∃ q : Nat, k % s.size = q := ⟨_, rfl⟩
        have hm : (k : Int) % (s.size : Int) = (q : Int) := by rw [← hq]; push_cast; rfl
        obtain ⟨b, hb⟩ : ∃ b : Nat, (s.data.toList.getD (k % s.size) 0).toNat = b := ⟨_, rfl⟩
        have hst' := hst b hb
        have hqs : q < s.size := by omega
        have hidx : s[q].toNat = b := by
          rw [← hb, hq]
          have hk' : q < s.data.toList.length := by rw [Array.length_toList]; exact hqs
          rw [List.getD_eq_getElem?_getD, List.getElem?_eq_getElem hk']
          rfl
        have HST := Lib.hid hst'
        clear hst hst' hkm hb hq
        go_wp2_with fail
        exact ⟨⟨k + 1, by omega, by go_num, by rw [HST.out]⟩, by simp [intOf]; omega⟩
      · obtain rfl : k = 64 := by omega
        go_wp2_with fail
        go_ret
        exact ⟨by rw [HF.out]; rfl, bnew _ _⟩
end Go.Proofs.YtjjphcnoegaimaaGreat

namespace Go.Proofs.YtjjphcnoegaimaaGreat
open Go.RowKit Go.Shelf Go.Maps
set_option maxRecDepth 20000
set_option linter.unusedVariables false

theorem most_12 : IsMost 12 10 := by unfold IsMost places; decide
section
variable {w0 w W W' W1 : World} {X : Nat → Prop} {p jb N B fr n g r tb m : Nat} {s : DS} {M : Wl} {L : List ByteArray} {v v' : Value} {wr w1 : World}
theorem below_mid (h : Below w0.heap.size w0 W) (h' : Below w0.heap.size w0 W') (hs : W.heap.size ≤ W'.heap.size) (hk : ∀ k, k < W.heap.size → W'.heap[k]? = W.heap[k]?) : Below W.heap.size W W' :=
  ⟨h'.os.trans h.os.symm, h'.tape.trans h.tape.symm, h'.output.trans h.output.symm, hs, hk⟩
/-- A device and a journal on it. -/
structure MdPost (w0 W : World) (N p jb : Nat) (W' : World) : Prop where
  j : JS w0 (fun k => (w0.heap.size ≤ k ∧ k < W.heap.size) ∨ k = jb) p jb N 0 4 12 0 0 (newS N) W'
  below : Below W.heap.size W W'
  ge : W.heap.size ≤ jb
set_option maxHeartbeats 2000000 in
theorem made_any (N : Nat) (h16 : 16 ≤ N) (hN : N ≤ 4096) (hB : Below w0.heap.size w0 W) : Calls Tryz.prog 10 #[.int .i64 N] W fun e W' => ∃ p jb, e = .returned (.tuple #[.pointer (some ⟨p, 0, none⟩), .pointer (some ⟨jb, 0, none⟩)]) ∧ MdPost w0 W N p jb W' := by
  have hnew := o_new N (by omega) hN w0 W hB
  have HNW := Lib.hid hnew
  have HB := Lib.hid hB
  clear hnew hB
  go_enter Tryz.func10, Tryz.ntmps10
  go_wp2_with fail
  refine HNW.out.mono ?_
  rintro e w1 ⟨rfl, h0, hB1⟩
  have hop := open_JL (fr := 4) (n := 12) h0 (newS_ok N) (newS_JL N 4) (by decide) (by decide) (by omega) hN most_12
  have HOP := Lib.hid hop
  have HB1 := Lib.hid hB1
  clear h0 hop hB1
  go_wp2_with fail
  refine HOP.out.mono ?_
  rintro e w2 ⟨rfl, h2, k2⟩
  have hp : MdPost w0 W N (W.heap.size + 1) w1.heap.size w2 := by
    have hs := blk_lt h2.obj
    have hs1 := HB1.out.size
    refine ⟨h2, below_mid HB.out h2.dev.below (by omega) (fun k hk => ?_), hs1⟩
    by_cases e : k < w0.heap.size
    · exact (k2 k (.inl e)).trans (HB1.out.block k hk)
    · exact (k2 k (.inr ⟨by omega, hk⟩)).trans (HB1.out.block k hk)
  have HP := Lib.hid hp
  clear h2 k2 hp
  go_wp2_with fail
  go_ret2
  exact ⟨_, _, rfl, HP.out⟩

/-- A row of texts of the call's own. -/
structure TxI (W : World) (L : List ByteArray) (v : Value) (wr : World) : Prop where
  row : wr.ownsRow W.heap.size 9 1 v L.length (sv L)
  below : Below W.heap.size W wr
theorem TxI.of (h : TxI W L v wr) (hB : Below wr.heap.size wr w1) : TxI W L v w1 := by
  refine ⟨?_, bt h.below hB⟩
  obtain ⟨hl, hr⟩ := h.row
  refine ⟨hl, ?_⟩
  rcases hr with h' | ⟨g, cap, cur, rfl, h0, hh, hr⟩
  · exact .inl h'
  · exact .inr ⟨g, cap, cur, rfl, h0, (hB.block g (blk_lt hh)).trans hh, hr⟩
theorem TxI.step (h : TxI W L v wr) {b : ByteArray} (hown : w1.ownsRow W.heap.size 9 1 v' (L.length + 1) (sv L ++ [.string b])) (hg : wr.grownBy w1 v.ownBlock) : TxI W (L ++ [b]) v' w1 := by
  refine ⟨?_, h.below.grown hg h.below.size (fun g e => ?_)⟩
  · rw [List.length_append]
    have e : sv (L ++ [b]) = sv L ++ [Value.string b] := by simp [sv]
    rw [e]
    exact hown
  · rcases h.row.2 with ⟨rfl, _⟩ | ⟨g', c, cur, rfl, h0, _⟩
    · cases e
    · cases e; exact h0
/-- Where a row of texts lies, and its cells. -/
def TxAt (W : World) (v : Value) (L : List ByteArray) (Y : Nat → Prop) : Prop := ∃ ao cap, v = .slice ao L.length cap ∧ (0 < L.length → ∃ g, ao = some ⟨g, 0, none⟩ ∧ Y g ∧ g < W.heap.size ∧ ∀ j, j < L.length → W.cell? ⟨g, j, none⟩ = some (.string (L.getD j ByteArray.empty)))
theorem TxI.at (h : TxI W L v wr) : TxAt wr v L (fun g => W.heap.size ≤ g) := by
  obtain ⟨hl, hr⟩ := h.row
  rcases hr with ⟨rfl, h0⟩ | ⟨g, cap, cur, rfl, h0, hh, hr⟩
  · refine ⟨none, 0, by rw [h0], fun hp => by omega⟩
  · exact ⟨_, _, rfl, fun hp => ⟨g, rfl, h0, blk_lt hh, fun j hj => ownsRow_cell (ownsRow_base h.row) rfl (by simp [sv, List.getD_eq_getElem?_getD, hj])⟩⟩
theorem TxAt.keep {Y : Nat → Prop} (h : TxAt W v L Y) (hk : ∀ k, Y k → k < W.heap.size → W'.heap[k]? = W.heap[k]?) : TxAt W' v L Y := by
  obtain ⟨ao, cap, rfl, hc⟩ := h
  refine ⟨ao, cap, rfl, fun hp => ?_⟩
  obtain ⟨g, rfl, hy, hg, hcell⟩ := hc hp
  have hb := hk g hy hg
  refine ⟨g, rfl, hy, ?_, fun j hj => (World.cell?_of_block (w := W) hb).trans (hcell j hj)⟩
  have := Array.getElem?_eq_getElem hg
  rw [← hb] at this
  exact blk_lt this
theorem TxAt.weak {Y Z : Nat → Prop} (h : TxAt W v L Y) (hz : ∀ k, Y k → k < W.heap.size → Z k) : TxAt W v L Z := by
  obtain ⟨ao, cap, rfl, hc⟩ := h
  refine ⟨ao, cap, rfl, fun hp => ?_⟩
  obtain ⟨g, e, hy, hg, hcell⟩ := hc hp
  exact ⟨g, e, hz g hy hg, hg, hcell⟩
/-- All sectors. -/
def allL (f : Nat → ByteArray) (N : Nat) : List ByteArray := (List.range N).map f
theorem allL_length (f : Nat → ByteArray) (N : Nat) : (allL f N).length = N := by simp [allL]
theorem allL_succ (f : Nat → ByteArray) (k : Nat) : allL f (k + 1) = allL f k ++ [f k] := by simp [allL, List.range_succ]
theorem allL_get (f : Nat → ByteArray) (N i : Nat) (h : i < N) : (allL f N).getD i ByteArray.empty = f i := by simp [allL, List.getD_eq_getElem?_getD, h]
theorem allL_congr {f f' : Nat → ByteArray} {N : Nat} (h : ∀ i, i < N → f i = f' i) : allL f N = allL f' N := List.map_congr_left (fun i hi => h i (List.mem_range.1 hi))
theorem o_readb (h : DvO w0 X p s W) (hN : s.hard.length = N) (hd : s.dead = false) (i : Nat) (hi : i < N) : Calls Tryz.prog 40 #[.pointer (some ⟨p, 0, none⟩), .int .i64 i] W fun e W' =>
    e = .returned (.tuple #[.string (newest s i), .int .i64 0]) ∧ Below W.heap.size W W' := by
  obtain ⟨hb, hc, m, L, h1, h2⟩ := h.dev
  exact dev_read h1 hd i (by rw [hN]; exact hi)

set_option maxHeartbeats 4000000 in
theorem sectors8_any (h : DvO w0 X p s W) (hN : s.hard.length = N) (hN2 : N ≤ 4096) (hd : s.dead = false) : Calls Tryz.prog 12 #[.pointer (some ⟨p, 0, none⟩), .int .i64 N] W fun e W' => ∃ v, e = .returned v ∧ TxI W (allL (newest s) N) v W' := by
  obtain ⟨i0, ii, hz0, hz1, hz2⟩ := infoStr
  have HH := Lib.hid h
  clear h
  go_enter Tryz.func12, Tryz.ntmps12
  go_wp2_with fail
  go_loopw [5, 6, 7, 8] (fun v5 v6 _ _ wr => ∃ k : Nat, k ≤ N ∧ v6 = .int .i64 k ∧ TxI W (allL (newest s) k) v5 wr) (fun _ v6 _ _ _ => N - (intOf v6).toNat)
  case atStart => exact ⟨0, Nat.zero_le _, rfl, World.ownsRow_nil _ _ _ _, Below.refl _ _⟩
  case round =>
    obtain ⟨k, hk, rfl, hI⟩ := hrel
    by_cases hlt : k < N
    · have dk : decide (k < N) = true := decide_eq_true hlt
      have hrd := o_readb (HH.out.of hI.below) hN hd k hlt
      have HRD := Lib.hid hrd
      have hsu := allL_succ (newest s) k
      have HSU := Lib.hid hsu
      have hLk := allL_length (newest s) k
      have HI := Lib.hid hI
      have h63 : (allL (newest s) k).length + 1 ≤ maxLen := by rw [hLk]; unfold maxLen; omega
      have hby : ((allL (newest s) k).length + 1) * 16 ≤ 140737488355328 := by rw [hLk]; omega
      generalize newest s k = b at *
      generalize allL (newest s) k = L at *
      clear hrd hsu hLk hI
      go_wp2_with fail
      refine HRD.out.mono ?_
      rintro e w2 ⟨rfl, hB⟩
      have hT := (HI.out.of hB).of (bnew w2 (.cells #[.string b] 9))
      have hone : ∀ u ∈ [Value.string b], u.oneCell' = true := by simp [Value.oneCell']
      have hL5 : W.heap.size ≤ (w2.alloc (.cells #[.string b] 9)).heap.size := hT.below.size
      have HT := Lib.hid hT
      clear hT hB
      go_wp2_with (at_builtin; refine wpList_append_own _ rfl _ _ 33 rfl W.heap.size 9 i0 (.string ByteArray.empty) 1 16 Tryz.underlying33 ii hz0 hz1 hz2 rfl (by decide) _ L.length (sv L) rfl HT.out.row ⟨w2.heap.size, 0, none⟩ 1 1 [.string b] rfl rfl (World.news_of_block (hp_new _ _ rfl)) hone h63 hby hL5 ?_; intro v' w5 hown' hgrow _)
      have HST := Lib.hid (TxI.step HT.out hown' hgrow)
      clear hown' hgrow
      go_wp2_with fail
      go_roundw
      case rel => exact ⟨k + 1, by omega, by go_num, by rw [HSU.out]; exact HST.out⟩
      case measure => simp [intOf]; omega
    · obtain rfl : k = N := by omega
      go_wp2_with fail
      go_ret
      exact ⟨_, rfl, hI⟩

set_option maxHeartbeats 4000000 in
/-- Rows of sectors that are the same, but for the area. -/
theorem outside8_yes {Y Z : Nat → Prop} {va vb : Value} {A C : List ByteArray} (ha : TxAt W va A Y) (hb : TxAt W vb C Z) (hl : A.length = C.length) (hl2 : A.length ≤ 4096)
    (hs : ∀ i, i < A.length → ¬ (4 ≤ i ∧ i < 16) → A.getD i ByteArray.empty = C.getD i ByteArray.empty) :
    Calls Tryz.prog 17 #[va, vb] W fun e W' => e = .returned (.bool true) ∧ Below W.heap.size W W' := by
  obtain ⟨ao, cap, rfl, hca⟩ := ha
  obtain ⟨bo, bcap, rfl, hcb⟩ := hb
  rw [← hl] at hcb ⊢
  have HA := Lib.hid hca
  have HB := Lib.hid hcb
  have HS := Lib.hid hs
  clear hca hcb hl hs
  go_enter Tryz.func17, Tryz.ntmps17
  go_wp2_with fail
  go_loopw [5] (fun v5 wr => ∃ k : Nat, k ≤ A.length ∧ v5 = .int .i64 k ∧ Below W.heap.size W wr) (fun v5 _ => A.length - (intOf v5).toNat)
  case atStart => exact ⟨0, Nat.zero_le _, rfl, Below.refl _ _⟩
  case round =>
    obtain ⟨k, hk, rfl, hBr⟩ := hrel
    by_cases hlt : k < A.length
    · obtain ⟨ga, rfl, -, hga, hc1⟩ := HA.out (by omega)
      obtain ⟨gb, rfl, -, hgb, hc2⟩ := HB.out (by omega)
      have d1 := (hBr.cell (p := ⟨ga, k, none⟩) hga).trans (hc1 k hlt)
      have d2 := (hBr.cell (p := ⟨gb, k, none⟩) hgb).trans (hc2 k hlt)
      have hsk := HS.out k hlt
      have HBr := Lib.hid hBr
      clear hc1 hc2 hBr
      generalize A.getD k ByteArray.empty = a1 at *
      generalize C.getD k ByteArray.empty = b1 at *
      by_cases he : a1 = b1
      · subst he
        have e0 : (a1.toList == a1.toList) = true := by simp
        clear hsk
        go_wp2_with fail
        go_quiet (fail)
        go_wp2_with fail
        go_roundw
        case rel => exact ⟨k + 1, by omega, by go_num, drewn_b HBr.out nq⟩
        case measure => simp [intOf]; omega
      · have hin : 4 ≤ k ∧ k < 16 := Decidable.of_not_not (fun e => he (hsk e))
        have e0 : (a1.toList == b1.toList) = false := by
          apply beq_false_of_ne
          intro e
          apply he
          rw [Go.ByteArray.toList_eq, Go.ByteArray.toList_eq] at e
          cases a1; cases b1
          simp only at e
          rw [Array.toList_inj.1 e]
        have e1 : decide ((k : Int) < 4) = false := decide_eq_false (by omega)
        have e1' : decide (k < 4) = false := decide_eq_false (by omega)
        have e2 : decide ((k : Int) ≥ 16) = false := decide_eq_false (by omega)
        have e2' : decide (16 ≤ k) = false := decide_eq_false (by omega)
        clear hsk hin he
        go_wp2_with fail
        go_quiet (fail)
        go_wp2_with fail
        go_roundw
        case rel => exact ⟨k + 1, by omega, by go_num, drewn_b HBr.out nq⟩
        case measure => simp [intOf]; omega
    · obtain rfl : k = A.length := by omega
      go_wp2_with fail
      go_ret
      exact ⟨rfl, hBr⟩
end
end Go.Proofs.YtjjphcnoegaimaaGreat
