/- package geo: the walks through Super and Read. -/
import Derived.Test.YtcdmipgopffaaaaGeoPart
import Derived.Test.YtcdmipgopffaaaaOctGet
import Derived.Test.YtcdmipgopffaaaaZero
namespace Go.Proofs.Ytcdmipgopffaaaa
open Go.RowKit
set_option maxRecDepth 20000

def magic : List UInt8 := [108, 117, 110, 101, 116, 116, 101, 49]
def gvals (i b j : Int) : List Int := [i, b, j]
/-- A superblock's beginning. -/
def pre (i b j : Int) (k : Nat) : List UInt8 := magic ++ ((gvals i b j).take k).flatMap fun v => bytesLE v.toNat 4
/-- A superblock. -/
def sup (i b j : Int) : List UInt8 := pre i b j 3 ++ zeros 44
theorem pre_succ (i b j : Int) {k : Nat} (hk : k < 3) : pre i b j (k + 1) = pre i b j k ++ bytesLE ((gvals i b j).getD k 0).toNat 4 := by
  rcases (by omega : k = 0 ∨ k = 1 ∨ k = 2) with rfl | rfl | rfl <;> simp [pre, gvals]
theorem pre_length (i b j : Int) {k : Nat} (hk : k ≤ 3) : (pre i b j k).length = 8 + 4 * k := by
  rcases (by omega : k = 0 ∨ k = 1 ∨ k = 2 ∨ k = 3) with rfl | rfl | rfl | rfl <;> simp [pre, gvals, magic, bytesLE_length]
theorem sup_length (i b j : Int) : (sup i b j).length = 64 := by rw [sup, List.length_append, pre_length i b j (by omega), zeros_length]
theorem gvals_bd {i b j : Int} (h : Mays i b j) {k : Nat} (hk : k < 3) : 0 ≤ (gvals i b j).getD k 0 ∧ (gvals i b j).getD k 0 ≤ 2000 := by
  obtain ⟨i0, i1, b0, b1, j0, j1⟩ := h
  rcases (by omega : k = 0 ∨ k = 1 ∨ k = 2) with rfl | rfl | rfl <;> simp [gvals] <;> omega
def gvc (i b j : Int) : Array Value := #[.int .i64 i, .int .i64 b, .int .i64 j]
theorem gvc_get (i b j : Int) {k : Nat} (hk : k < 3) : (gvc i b j)[k]? = some (.int .i64 ((gvals i b j).getD k 0)) := by
  rcases (by omega : k = 0 ∨ k = 1 ∨ k = 2) with rfl | rfl | rfl <;> rfl

set_option maxHeartbeats 1000000 in
theorem super_no {i b j : Int} (h : ¬ Mays i b j) (w : World) : Calls Try.prog 11 #[.agg #[.int .i64 i, .int .i64 b, .int .i64 j]] w fun e w' => e = .returned (.tuple #[.string (bs []), .int .i64 2]) ∧ Below w.heap.size w w' := by
  go_enter Try.func11, Try.ntmps11
  go_wp2_with fail
  refine (geo_may_no h _).mono ?_
  rintro e w1 ⟨rfl, hB⟩
  go_wp2_with fail
  go_ret2
  exact ⟨rfl, bt (bnew _ _) hB⟩

set_option maxHeartbeats 2000000 in
theorem super_yes {i b j : Int} (h : Mays i b j) (w : World) : Calls Try.prog 11 #[.agg #[.int .i64 i, .int .i64 b, .int .i64 j]] w fun e w' => e = .returned (.tuple #[.string (bs (sup i b j)), .int .i64 0]) ∧ Below w.heap.size w w' := by
  have d0 := hp_new w (.cells #[.int .i64 i, .int .i64 b, .int .i64 j] 23) rfl
  have hmk : ∀ W : World, (Instr.makeSlice 31 (.int .i64 44) (.int .i64 44)).run Try.prog W = .ok (.slice (some ⟨W.heap.size, 0, none⟩) 44 44) (W.alloc (.cells (bc (zeros 44)) 5)) := make_zeros 44 (by decide)
  have hcv := conv_new (zeros 44) 44 (zeros_length 44)
  go_enter Try.func11, Try.ntmps11
  go_wp2_with fail
  refine (geo_may_yes h _).mono ?_
  rintro e w1 ⟨rfl, hB⟩
  have hG := bblk hB d0
  have g0 := cl_of hG 0
  have g1 := cl_of hG 1
  have g2 := cl_of hG 2
  have B1 := bt (bnew w (.cells #[.int .i64 i, .int .i64 b, .int .i64 j] 23)) hB
  clear hB d0
  go_wp2_with fail
  go_loopw [4, 20] (fun v8 v9 wr => ∃ k : Nat, ∃ l : List UInt8, k ≤ 3 ∧ v8 = .string (bs l) ∧ v9 = .int .i64 k ∧ Hid (l = pre i b j k) ∧ wr.heap[w1.heap.size]? = some (.cells (gvc i b j) 3 (0, 0)) ∧ Below w.heap.size w wr) (fun _ v9 _ => 3 - (intOf v9).toNat)
  case atStart => exact ⟨0, magic, by omega, rfl, rfl, Lib.hid rfl, hp_new _ _ rfl, bal B1 _⟩
  case round =>
    obtain ⟨k, l, hk, rfl, rfl, HL, hl, hB3⟩ := hrel
    clear g0 g1 g2 hG B1
    have hll : l.length = 8 + 4 * k := by rw [HL.out, pre_length i b j hk]
    have hs := bs_size l
    by_cases hlt : k < 3
    · have hc := (cl_of hl k).trans (gvc_get i b j hlt)
      have hv := gvals_bd h hlt
      have HP := Lib.hid (pre_succ i b j hlt)
      generalize (gvals i b j).getD k 0 = v at *
      have HLL := Lib.hid hll
      clear hll hmk hcv
      go_wp2_with fail
      refine (num_any' v 4 (by omega) (by omega) (by decide) (by decide) (.inr (by show v.toNat < 256 ^ 4; omega)) _).mono ?_
      rintro e w2 ⟨rfl, hB4⟩
      have h4 : (bs (bytesLE v.toNat 4)).size = 4 := by rw [bs_size, bytesLE_length]
      have hl4 : l.length ≤ 20 := by rw [HLL.out]; omega
      have HA := bs_append l (bytesLE v.toNat 4)
      go_wp2_with fail
      go_roundw
      case rel => exact ⟨k + 1, l ++ bytesLE v.toNat 4, by omega, rfl, by go_num, Lib.hid (by rw [HP.out, HL.out]), bblk hB4 hl, bt hB3 hB4⟩
      case measure => simp [intOf]; omega
    · obtain rfl : k = 3 := by omega
      have hll' : l.length = 20 := by omega
      have hz := bs_size (zeros 44)
      have hz2 := zeros_length 44
      have HA := bs_append l (zeros 44)
      have HLL := Lib.hid hll
      clear hll
      go_wp2_with fail
      go_ret2
      exact ⟨by rw [HL.out]; rfl, bal hB3 _⟩

/-- The k-th number of a superblock's bytes. -/
def val (l : List UInt8) (k : Nat) : Nat := le ((l.take (8 + 4 * k + 4)).drop (8 + 4 * k))
theorem val_lt {l : List UInt8} (hl : l.length = 64) {k : Nat} (hk : k < 3) : val l k < 4294967296 := by
  have h := le_lt ((l.take (8 + 4 * k + 4)).drop (8 + 4 * k))
  have e : ((l.take (8 + 4 * k + 4)).drop (8 + 4 * k)).length = 4 := by simp [hl]; omega
  rw [e] at h
  exact h
def gc (l : List UInt8) (k : Nat) : Array Value := #[.int .i64 (if 0 < k then (val l 0 : Int) else 0), .int .i64 (if 1 < k then (val l 1 : Int) else 0), .int .i64 (if 2 < k then (val l 2 : Int) else 0)]
theorem gc_set (l : List UInt8) {k : Nat} (hk : k < 3) : (gc l k).setIfInBounds k (.int .i64 (val l k)) = gc l (k + 1) := by
  rcases (by omega : k = 0 ∨ k = 1 ∨ k = 2) with rfl | rfl | rfl <;> simp [gc]
theorem gc_get (l : List UInt8) {k : Nat} (hk : k < 3) : (gc l k)[k]? = some (.int .i64 0) := by
  rcases (by omega : k = 0 ∨ k = 1 ∨ k = 2) with rfl | rfl | rfl <;> rfl
def gpc (g : Nat) : Array Value := #[.pointer (some ⟨g, 0, none⟩), .pointer (some ⟨g, 1, none⟩), .pointer (some ⟨g, 2, none⟩)]
theorem gpc_get (g : Nat) {k : Nat} (hk : k < 3) : (gpc g)[k]? = some (.pointer (some ⟨g, k, none⟩)) := by
  rcases (by omega : k = 0 ∨ k = 1 ∨ k = 2) with rfl | rfl | rfl <;> rfl

set_option maxHeartbeats 2000000 in
theorem read_short {l : List UInt8} (_hm : l.length ≤ 140737488351232) (h : l.length ≠ 64) (w : World) : Calls Try.prog 14 #[.string (bs l)] w fun e w' => e = .returned (.tuple #[.agg #[.int .i64 0, .int .i64 0, .int .i64 0], .int .i64 7]) ∧ Below w.heap.size w w' := by
  have hs := bs_size l
  have hn : ((l.length : Int) != 64) = true := by rw [bne_iff_ne]; omega
  go_enter Try.func14, Try.ntmps14
  go_wp2_with fail
  exact bodyPost_ret (v := .tuple #[.agg #[.int .i64 0, .int .i64 0, .int .i64 0], .int .i64 7]) (by simp [results, Try.results14, go_sem]) rfl ⟨rfl, bnew _ _⟩

set_option maxHeartbeats 2000000 in
theorem read_nomagic {l : List UInt8} (h : l.length = 64) (hm : l.take 8 ≠ magic) (w : World) : Calls Try.prog 14 #[.string (bs l)] w fun e w' => e = .returned (.tuple #[.agg #[.int .i64 0, .int .i64 0, .int .i64 0], .int .i64 7]) ∧ Below w.heap.size w w' := by
  have hs : (bs l).size = 64 := by rw [bs_size, h]
  have ht := bs_take' l 8
  have hq : ((bs (l.take 8)).toList == magic) = false := by rw [bs_toList']; simpa using hm
  unfold magic at hq
  clear h hm
  go_enter Try.func14, Try.ntmps14
  go_wp2_with fail
  exact bodyPost_ret (v := .tuple #[.agg #[.int .i64 0, .int .i64 0, .int .i64 0], .int .i64 7]) (by simp [results, Try.results14, go_sem]) rfl ⟨rfl, bnew _ _⟩

set_option maxHeartbeats 4000000 in
theorem read_magic {l : List UInt8} (h : l.length = 64) (hm : l.take 8 = magic) (w : World) : Calls Try.prog 14 #[.string (bs l)] w fun e w' =>
    Below w.heap.size w w' ∧ (Mays (val l 0) (val l 1) (val l 2) ∧ sup (val l 0) (val l 1) (val l 2) = l → e = .returned (.tuple #[.agg #[.int .i64 (val l 0), .int .i64 (val l 1), .int .i64 (val l 2)], .int .i64 0])) ∧
      (¬ (Mays (val l 0) (val l 1) (val l 2) ∧ sup (val l 0) (val l 1) (val l 2) = l) → e = .returned (.tuple #[.agg #[.int .i64 0, .int .i64 0, .int .i64 0], .int .i64 7])) := by
  have hs : (bs l).size = 64 := by rw [bs_size, h]
  have ht := bs_take' l 8
  have hq : ((bs (l.take 8)).toList == magic) = true := by rw [bs_toList']; simpa using hm
  unfold magic at hq
  have H := Lib.hid h
  have HM := Lib.hid hm
  clear h hm
  go_enter Try.func14, Try.ntmps14
  go_wp2_with fail
  go_loopw [24] (fun v wr => ∃ k : Nat, k ≤ 3 ∧ v = .int .i64 k ∧ wr.heap[w.heap.size]? = some (.cells (gc l k) 23 (0, 0)) ∧ wr.heap[w.heap.size + 1]? = some (.cells (gpc w.heap.size) 74 (0, 0)) ∧ Below w.heap.size w wr) (fun v _ => 3 - (intOf v).toNat)
  case atStart => exact ⟨0, by omega, rfl, (hp_old _ _ (by simp)).trans (hp_new _ _ rfl), hp_new _ _ (by simp), bal (bnew _ _) _⟩
  case round =>
    obtain ⟨k, hk, rfl, hg, hp, hB⟩ := hrel
    by_cases hlt : k < 3
    · have hc := (cl_of hp k).trans (gpc_get w.heap.size hlt)
      have hx := bs_extract l (8 + 4 * k) (8 + 4 * k + 4)
      have hl4 : ((l.take (8 + 4 * k + 4)).drop (8 + 4 * k)).length = 4 := by simp [H.out]; omega
      have hb4 : (bs ((l.take (8 + 4 * k + 4)).drop (8 + 4 * k))).size = 4 := by rw [bs_size, hl4]
      have hv := val_lt H.out hlt
      have hgk := (cl_of hg k).trans (gc_get l hlt)
      have hzk := fz_of hg k
      go_wp2_with fail
      refine (get_bs _ (by rw [hl4]; decide) _).mono ?_
      rintro e w2 ⟨rfl, rfl⟩
      have ev : le ((l.take (8 + 4 * k + 4)).drop (8 + 4 * k)) = val l k := rfl
      rw [ev]
      clear ev hl4 hb4 hx
      generalize hV : val l k = V at *
      have HV := Lib.hid hV
      clear hV
      go_wp2_with fail
      go_roundw
      case rel => exact ⟨k + 1, by omega, by go_num, by rw [← gc_set l hlt, HV.out]; exact blk_here hg k _, blk_set hp (by show w.heap.size + 1 ≠ w.heap.size; omega) _, hB.setCell (Nat.le_refl _) _⟩
      case measure => simp [intOf]; omega
    · obtain rfl : k = 3 := by omega
      have v0 := val_lt H.out (k := 0) (by decide)
      have v1 := val_lt H.out (k := 1) (by decide)
      have v2 := val_lt H.out (k := 2) (by decide)
      have hgv : gc l 3 = #[.int .i64 (val l 0), .int .i64 (val l 1), .int .i64 (val l 2)] := rfl
      rw [hgv] at hg
      clear hgv hp
      by_cases hy : Mays (val l 0) (val l 1) (val l 2)
      · have g0 := cl_of hg 0
        have g1 := cl_of hg 1
        have g2 := cl_of hg 2
        have z0 := fz_of hg 0
        have z1 := fz_of hg 1
        have z2 := fz_of hg 2
        go_wp2_with fail
        refine (super_yes hy _).mono ?_
        rintro e w2 ⟨rfl, hB2⟩
        have hg2 := bblk hB2 hg
        clear g0 g1 g2 z0 z1 z2 hg
        have g0 := cl_of hg2 0
        have g1 := cl_of hg2 1
        have g2 := cl_of hg2 2
        have z0 := fz_of hg2 0
        have z1 := fz_of hg2 1
        have z2 := fz_of hg2 2
        by_cases he : sup (val l 0) (val l 1) (val l 2) = l
        · have HE := Lib.hid he
          clear he
          rw [HE.out]
          go_wp2_with fail
          refine bodyPost_ret (v := .tuple #[.agg #[.int .i64 (val l 0), .int .i64 (val l 1), .int .i64 (val l 2)], .int .i64 0]) (by simp [results, Try.results14, go_sem, g0, g1, g2]) rfl ⟨?_, fun _ => ?_, fun hn => absurd ⟨hy, HE.out⟩ hn⟩
          · exact (((bt hB hB2).setCell (Nat.le_refl _) _).setCell (Nat.le_refl _) _).setCell (Nat.le_refl _) _
          · rfl
        · have HE := Lib.hid (bs_ne' he)
          have HN := Lib.hid he
          clear he
          have hq2 := HE.out
          clear HE
          go_wp2_with fail
          refine bodyPost_ret (v := .tuple #[.agg #[.int .i64 0, .int .i64 0, .int .i64 0], .int .i64 7]) (by simp [results, Try.results14, go_sem, g0, g1, g2]) rfl ⟨?_, fun hn => absurd hn.2 HN.out, fun _ => rfl⟩
          exact (((bt hB hB2).setCell (Nat.le_refl _) _).setCell (Nat.le_refl _) _).setCell (Nat.le_refl _) _
      · have g0 := cl_of hg 0
        have g1 := cl_of hg 1
        have g2 := cl_of hg 2
        have z0 := fz_of hg 0
        have z1 := fz_of hg 1
        have z2 := fz_of hg 2
        go_wp2_with fail
        refine (super_no hy _).mono ?_
        rintro e w2 ⟨rfl, hB2⟩
        have hg2 := bblk hB2 hg
        clear g0 g1 g2 z0 z1 z2 hg
        have g0 := cl_of hg2 0
        have g1 := cl_of hg2 1
        have g2 := cl_of hg2 2
        have z0 := fz_of hg2 0
        have z1 := fz_of hg2 1
        have z2 := fz_of hg2 2
        go_wp2_with fail
        refine bodyPost_ret (v := .tuple #[.agg #[.int .i64 0, .int .i64 0, .int .i64 0], .int .i64 7]) (by simp [results, Try.results14, go_sem, g0, g1, g2]) rfl ⟨?_, fun hn => absurd hn.1 hy, fun _ => rfl⟩
        exact (((bt hB hB2).setCell (Nat.le_refl _) _).setCell (Nat.le_refl _) _).setCell (Nat.le_refl _) _

theorem sup_val {i b j : Int} (h : Mays i b j) : ((val (sup i b j) 0 : Nat) : Int) = i ∧ ((val (sup i b j) 1 : Nat) : Int) = b ∧ ((val (sup i b j) 2 : Nat) : Int) = j := by
  obtain ⟨i0, i1, b0, b1, j0, j1⟩ := h
  have hi := bytesLE_length 4 i.toNat
  have hb := bytesLE_length 4 b.toNat
  have hj := bytesLE_length 4 j.toNat
  have ei := le_bytesLE 4 i.toNat
  have eb := le_bytesLE 4 b.toNat
  have ej := le_bytesLE 4 j.toNat
  have e : sup i b j = magic ++ (bytesLE i.toNat 4 ++ (bytesLE b.toNat 4 ++ (bytesLE j.toNat 4 ++ zeros 44))) := by simp [sup, pre, gvals]
  have hm : magic.length = 8 := rfl
  rw [e]
  generalize bytesLE i.toNat 4 = li at *
  generalize bytesLE b.toNat 4 = lb at *
  generalize bytesLE j.toNat 4 = lj at *
  generalize magic = m at *
  have r0 : ((m ++ (li ++ (lb ++ (lj ++ zeros 44)))).take 12).drop 8 = li := by
    rw [← List.append_assoc, List.take_append_of_le_length (by simp [hm, hi]), List.take_of_length_le (by simp [hm, hi]), List.drop_append_of_le_length (by omega), List.drop_of_length_le (by omega)]
    rfl
  have r1 : ((m ++ (li ++ (lb ++ (lj ++ zeros 44)))).take 16).drop 12 = lb := by
    rw [show m ++ (li ++ (lb ++ (lj ++ zeros 44))) = (m ++ li) ++ lb ++ (lj ++ zeros 44) by simp, List.take_append_of_le_length (by simp [hm, hi, hb]), List.take_of_length_le (by simp [hm, hi, hb]), List.drop_append_of_le_length (by simp [hm, hi]), List.drop_of_length_le (by simp [hm, hi])]
    rfl
  have r2 : ((m ++ (li ++ (lb ++ (lj ++ zeros 44)))).take 20).drop 16 = lj := by
    rw [show m ++ (li ++ (lb ++ (lj ++ zeros 44))) = (m ++ li ++ lb) ++ lj ++ zeros 44 by simp, List.take_append_of_le_length (by simp [hm, hi, hb, hj]), List.take_of_length_le (by simp [hm, hi, hb, hj]), List.drop_append_of_le_length (by simp [hm, hi, hb]), List.drop_of_length_le (by simp [hm, hi, hb])]
    rfl
  refine ⟨?_, ?_, ?_⟩
  · show ((le (((m ++ (li ++ (lb ++ (lj ++ zeros 44)))).take 12).drop 8) : Nat) : Int) = i
    rw [r0, ei]
    omega
  · show ((le (((m ++ (li ++ (lb ++ (lj ++ zeros 44)))).take 16).drop 12) : Nat) : Int) = b
    rw [r1, eb]
    omega
  · show ((le (((m ++ (li ++ (lb ++ (lj ++ zeros 44)))).take 20).drop 16) : Nat) : Int) = j
    rw [r2, ej]
    omega
theorem sup_inj {i b j i' b' j' : Int} (h : Mays i b j) (h' : Mays i' b' j') (e : sup i b j = sup i' b' j') : i = i' ∧ b = b' ∧ j = j' := by
  obtain ⟨a1, a2, a3⟩ := sup_val h
  obtain ⟨b1, b2, b3⟩ := sup_val h'
  rw [e] at a1 a2 a3
  exact ⟨a1.symm.trans b1, a2.symm.trans b2, a3.symm.trans b3⟩
theorem sup_magic (i b j : Int) : (sup i b j).take 8 = magic := by
  rw [sup, pre, List.append_assoc, List.take_append_of_le_length (by decide)]
  rfl

theorem read_yes {i b j : Int} (h : Mays i b j) (w : World) : Calls Try.prog 14 #[.string (bs (sup i b j))] w fun e w' => e = .returned (.tuple #[.agg #[.int .i64 i, .int .i64 b, .int .i64 j], .int .i64 0]) ∧ Below w.heap.size w w' := by
  refine (read_magic (sup_length i b j) (sup_magic i b j) w).mono ?_
  rintro e w' ⟨hB, hy, -⟩
  obtain ⟨a1, a2, a3⟩ := sup_val h
  rw [a1, a2, a3] at hy
  exact ⟨hy ⟨h, rfl⟩, hB⟩
theorem read_no {l : List UInt8} (hl : l.length ≤ 140737488351232) (h : ∀ i b j, Mays i b j → sup i b j ≠ l) (w : World) : Calls Try.prog 14 #[.string (bs l)] w fun e w' => e = .returned (.tuple #[.agg #[.int .i64 0, .int .i64 0, .int .i64 0], .int .i64 7]) ∧ Below w.heap.size w w' := by
  by_cases h64 : l.length = 64
  · by_cases hm : l.take 8 = magic
    · refine (read_magic h64 hm w).mono ?_
      rintro e w' ⟨hB, -, hn⟩
      exact ⟨hn (fun hh => h _ _ _ hh.1 hh.2), hB⟩
    · exact read_nomagic h64 hm w
  · exact read_short hl h64 w
end Go.Proofs.Ytcdmipgopffaaaa
