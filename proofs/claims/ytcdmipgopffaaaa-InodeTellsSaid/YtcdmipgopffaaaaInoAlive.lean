/- package inode: what was put is got; the chapter's examples. -/
import Derived.Test.YtcdmipgopffaaaaInoGet
namespace Go.Proofs.Ytcdmipgopffaaaa
open Go.RowKit
set_option maxRecDepth 20000
attribute [local go_sem ↓] Go.wp_at_zero Go.wp_at_succ

theorem gots_two_bytes {z : Int} (h0 : 0 ≤ z) (h1 : z < 65536) (l : List UInt8) : gots (bytesLE z.toNat 2 ++ l) = z :: gots l := by
  obtain ⟨n, rfl⟩ := Int.eq_ofNat_of_zero_le h0
  have e : bytesLE (n : Int).toNat 2 = [UInt8.ofNat (n % 256), UInt8.ofNat (n / 256 % 256)] := by simp [bytesLE]
  rw [e]
  show gots (_ :: _ :: l) = _
  rw [gots_two]
  have e1 : (UInt8.ofNat (n % 256)).toNat = n % 256 := by simp
  have e2 : (UInt8.ofNat (n / 256 % 256)).toNat = n / 256 % 256 := by simp
  rw [e1, e2]
  congr 1
  omega
theorem gots_pby {zs : List Int} (h : ∀ z ∈ zs, (Lit.int .u16 z).wf = true) (l : List UInt8) : gots (pby zs ++ l) = zs ++ gots l := by
  induction zs with
  | nil => rfl
  | cons z zs ih =>
    obtain ⟨h0, h1⟩ := wfu16 (h z (List.mem_cons_self ..))
    rw [pby, List.flatMap_cons, List.append_assoc, gots_two_bytes h0 h1]
    have := ih (fun y hy => h y (List.mem_cons_of_mem _ hy))
    rw [pby] at this
    rw [this, List.cons_append]
theorem toIno_bytes {x : Ino} (h : x.Wf) : toIno x.bytes = x := by
  have ht : x.bytes.take 32 = pby x.nums ++ zeros 14 := List.take_of_length_le (by rw [Ino.bytes_length]; exact Nat.le_refl _)
  have hg : ∀ k, k < 9 → gn x.bytes k = x.nums.getD k 0 := by
    intro k hk
    rw [gn, ht, gots_pby (Ino.nums_wf h), List.getD_eq_getElem?_getD, List.getElem?_append_left (by show k < 9; exact hk), ← List.getD_eq_getElem?_getD]
  obtain ⟨wk, wl, ws, w0, w1, w2, w3, wn⟩ := h
  rw [toIno, hg 0 (by decide), hg 1 (by decide), hg 2 (by decide), hg 3 (by decide), hg 4 (by decide), hg 5 (by decide), hg 6 (by decide), hg 7 (by decide), hg 8 (by decide)]
  obtain ⟨k, l, s, d0, d1, d2, d3, n⟩ := x
  simp only [Ino.nums, List.getD_cons_zero, List.getD_cons_succ, Ino.mk.injEq, and_true, true_and] at *
  omega
theorem Ino.bytes_inj {x y : Ino} (hx : x.Wf) (hy : y.Wf) (h : x.bytes = y.bytes) : x = y := by
  rw [← toIno_bytes hx, ← toIno_bytes hy, h]

theorem iget_yes {x : Ino} (hw : x.Wf) (hm : x.May) (w : World) : Calls Try.prog 30 #[.string (bs x.bytes)] w fun e w' => e = .returned (.tuple #[.agg (ic x), .int .i64 0]) ∧ Below w.heap.size w w' := by
  have hl := Ino.bytes_length x
  refine (iget_long x.bytes (by omega) (by omega) w).mono ?_
  rw [toIno_bytes hw]
  rintro e w' ⟨hB, hy, -⟩
  exact ⟨hy ⟨hm, rfl⟩, hB⟩
theorem iget_no {l : List UInt8} (h32 : 32 ≤ l.length) (hl : l.length ≤ 100000) (h : ∀ x : Ino, x.Wf → x.May → x.bytes ≠ l) (w : World) : Calls Try.prog 30 #[.string (bs l)] w fun e w' => e = .returned (.tuple #[.agg (ic Ino.zero), .int .i64 7]) ∧ Below w.heap.size w w' := by
  refine (iget_long l h32 hl w).mono ?_
  rintro e w' ⟨hB, -, hn⟩
  exact ⟨hn (fun hh => h _ (toIno_wf l) hh.1 hh.2), hB⟩

def one : Ino := ⟨1, 1, 65, 7, 9, 0, 0, 0⟩
theorem one_wf : one.Wf := ⟨by decide, by decide, by decide, by decide, by decide, by decide, by decide, by decide⟩
theorem one_may : one.May := by
  refine .inr ⟨.inl rfl, by decide, by decide, fun h => absurd h (by decide), ?_⟩
  intro i hi hne
  have hi5 : i < 5 := hi
  rcases (by omega : i = 0 ∨ i = 1 ∨ i = 2 ∨ i = 3 ∨ i = 4) with rfl | rfl | rfl | rfl | rfl
  · exact ⟨by decide, fun j hj => absurd hj (by omega)⟩
  · refine ⟨by decide, fun j hj => ?_⟩
    obtain rfl : j = 0 := by omega
    decide
  · exact absurd rfl hne
  · exact absurd rfl hne
  · exact absurd rfl hne
def two : Ino := ⟨1, 1, 65, 7, 7, 0, 0, 0⟩
theorem two_wf : two.Wf := ⟨by decide, by decide, by decide, by decide, by decide, by decide, by decide, by decide⟩
theorem two_maynot : ¬ two.May := by
  rintro (h | ⟨-, -, -, -, h⟩)
  · exact absurd h (by decide)
  · exact (h 1 (by decide) (by decide)).2 0 (by decide) rfl

set_option maxHeartbeats 400000 in
theorem one_any (w : World) : Calls Try.prog 50 #[] w fun e w' => e = .returned (.agg (ic one)) ∧ Below w.heap.size w w' := by
  go_enter Try.func50, Try.ntmps50
  go_wp2_with fail
  exact bodyPost_ret (v := .agg (ic one)) (by simp [results, Try.results50, go_sem, ic, one]) rfl ⟨rfl, bnew _ _⟩

theorem build_arr (w : World) : (Instr.build 49 #[(0, .int .u16 7), (1, .int .u16 7)]).run Try.prog w = .ok (.agg #[.int .u16 7, .int .u16 7, .int .u16 0, .int .u16 0]) w := by kernel_rfl
theorem sli_blk {W : World} {b : Nat} {n : Int} {t : TypeId} (h : W.heap[b]? = some (.cells #[.int .u16 n] t (0, 0))) (h0 : 0 ≤ n) (h1 : n < 65536) : SlI .u16 W (.slice (some ⟨b, 0, none⟩) 1 1) [n] :=
  ⟨⟨_, 1, rfl, fun _ => ⟨b, 0, rfl, blk_lt h, fun j hj => by
    obtain rfl : j = 0 := by simpa using hj
    exact cl_of h 0⟩⟩, fun m hm => by
    simp only [List.mem_singleton] at hm
    subst hm
    exact wf_u16 h0 h1⟩
theorem keep16 {W W' : World} {b c : Nat} {x y : Ino} (hB : Below W.heap.size W W') (h : C8 W b x ∧ C8 W c y) : C8 W' b x ∧ C8 W' c y :=
  ⟨h.1.step (fun _ _ => cellBl hB), h.2.step (fun _ _ => cellBl hB)⟩
theorem C8.of {W : World} {b : Nat} {x : Ino} {t : TypeId} (h : W.heap[b]? = some (.cells (ic x) t (0, 0))) : C8 W b x :=
  ⟨cl_of h 0, cl_of h 1, cl_of h 2, cl_of h 3, cl_of h 4, cl_of h 5, cl_of h 6, cl_of h 7⟩

set_option maxHeartbeats 4000000 in
theorem alive07 (w : World) : Calls Try.prog 28 #[] w fun e w' => e = .returned (.bool true) ∧ Below w.heap.size w w' := by
  have hone := iput_yes one one_wf one_may
  have hget := iget_yes one_wf one_may
  have hcb := check_maynot two two_wf two_maynot
  have hb := build_arr
  have l32 : (bs one.bytes).size = 32 := by rw [bs_size, Ino.bytes_length]
  have t12 := bs_take' one.bytes 12
  have q12 : ((bs (one.bytes.take 12)).toList == [1, 0, 1, 0, 65, 0, 0, 0, 7, 0, 9, 0]) = true := by rw [bs_toList']; decide +kernel
  have hsize : (bs (pby [5] ++ zeros 62)).size = 64 := by rw [bs_size]; decide
  have t2 := bs_take' (pby [5] ++ zeros 62) 2
  have q2 : ((bs ((pby [5] ++ zeros 62).take 2)).toList == [5, 0]) = true := by rw [bs_toList']; decide +kernel
  have ht5 : ∀ (W : World) (v : Value), SlI .u16 W v [5] → Calls Try.prog 33 #[v] W fun e w' => e = .returned (.tuple #[.string (bs (pby [5] ++ zeros 62)), .int .i64 0]) ∧ Below W.heap.size W w' := fun W v h => tell_any h (by decide)
  have p65 : pages 65 = 2 := by decide
  have he := fun W => eq_ino one one W
  have hie : ieq one one = true := by decide
  rw [hie] at he
  clear hie
  generalize one.bytes.take 12 = T12 at *
  generalize one.bytes = L at *
  generalize (pby [5] ++ zeros 62).take 2 = T2 at *
  generalize pby [5] ++ zeros 62 = T at *
  unfold ic at *
  dsimp only [one, two] at *
  go_enter Try.func28, Try.ntmps28
  go_wp2_with fail
  refine (one_any _).mono ?_
  unfold ic one
  dsimp only
  rintro e w1 ⟨rfl, hB1⟩
  go_wp2_with fail
  refine (hone _).mono ?_
  rintro e w2 ⟨rfl, hB2⟩
  have B2 := bt hB1 hB2
  clear hB1 hB2 hone
  go_wp2_with fail
  refine (hget _).mono ?_
  rintro e w3 ⟨rfl, hB3⟩
  have B3 := bal (bt B2 hB3) (.cells #[.int .u8 1, .int .u16 1, .int .u32 65, .int .u16 7, .int .u16 9, .int .u16 0, .int .u16 0, .int .u16 0] 51)
  have X3 : (w3.alloc (.cells #[.int .u8 1, .int .u16 1, .int .u32 65, .int .u16 7, .int .u16 9, .int .u16 0, .int .u16 0, .int .u16 0] 51)).heap[w3.heap.size]? = some (.cells (ic one) 51 (0, 0)) := hp_new _ _ rfl
  clear B2 hB3 hget
  go_wp2_with fail
  refine (one_any _).mono ?_
  unfold ic one
  dsimp only
  rintro e w5 ⟨rfl, hB5⟩
  have X5 := blk_old (bblk hB5 X3) (.cells #[.int .u8 1, .int .u16 1, .int .u32 65, .int .u16 7, .int .u16 7, .int .u16 0, .int .u16 0, .int .u16 0] 51)
  have Y5 : (w5.alloc (.cells #[.int .u8 1, .int .u16 1, .int .u32 65, .int .u16 7, .int .u16 7, .int .u16 0, .int .u16 0, .int .u16 0] 51)).heap[w5.heap.size]? = some (.cells (ic two) 51 (0, 0)) := hp_new _ _ rfl
  have B5 := bal (bt B3 hB5) (.cells #[.int .u8 1, .int .u16 1, .int .u32 65, .int .u16 7, .int .u16 7, .int .u16 0, .int .u16 0, .int .u16 0] 51)
  clear B3 X3 hB5
  go_wp2_with fail
  refine (iget_short [] (by decide) _).mono ?_
  unfold ic Ino.zero
  dsimp only
  rintro e w6 ⟨rfl, hB6⟩
  have X6 := blk_old (bblk hB6 X5) (.cells #[.int .u8 0, .int .u16 0, .int .u32 0, .int .u16 0, .int .u16 0, .int .u16 0, .int .u16 0, .int .u16 0] 51)
  have Y6 := blk_old (bblk hB6 Y5) (.cells #[.int .u8 0, .int .u16 0, .int .u32 0, .int .u16 0, .int .u16 0, .int .u16 0, .int .u16 0, .int .u16 0] 51)
  have B6 := bal (bt B5 hB6) (.cells #[.int .u8 0, .int .u16 0, .int .u32 0, .int .u16 0, .int .u16 0, .int .u16 0, .int .u16 0, .int .u16 0] 51)
  clear B5 X5 Y5 hB6
  go_wp2_with fail
  refine (ht5 _ _ (sli_blk (b := w6.heap.size + 1) (n := 5) (hp_new _ _ (by simp)) (by decide) (by decide))).mono ?_
  rintro e w7 ⟨rfl, hB7⟩
  have X7 := bblk hB7 (blk_old X6 (.cells #[.int .u16 5] 40))
  have Y7 := bblk hB7 (blk_old Y6 (.cells #[.int .u16 5] 40))
  have B7 := bt (bal B6 (.cells #[.int .u16 5] 40)) hB7
  clear B6 X6 Y6 hB7
  have CX := C8.of X7
  have CY := C8.of Y7
  go_wp2_with fail
  go_region_held3 (fun W => (W.cell? ⟨w3.heap.size, 0, none⟩ = some (.int .u8 1) ∧ W.cell? ⟨w3.heap.size, 1, none⟩ = some (.int .u16 1) ∧ W.cell? ⟨w3.heap.size, 2, none⟩ = some (.int .u32 65) ∧ W.cell? ⟨w3.heap.size, 3, none⟩ = some (.int .u16 7) ∧ W.cell? ⟨w3.heap.size, 4, none⟩ = some (.int .u16 9) ∧ W.cell? ⟨w3.heap.size, 5, none⟩ = some (.int .u16 0) ∧ W.cell? ⟨w3.heap.size, 6, none⟩ = some (.int .u16 0) ∧ W.cell? ⟨w3.heap.size, 7, none⟩ = some (.int .u16 0)) ∧ (W.cell? ⟨w5.heap.size, 0, none⟩ = some (.int .u8 1) ∧ W.cell? ⟨w5.heap.size, 1, none⟩ = some (.int .u16 1) ∧ W.cell? ⟨w5.heap.size, 2, none⟩ = some (.int .u32 65) ∧ W.cell? ⟨w5.heap.size, 3, none⟩ = some (.int .u16 7) ∧ W.cell? ⟨w5.heap.size, 4, none⟩ = some (.int .u16 7) ∧ W.cell? ⟨w5.heap.size, 5, none⟩ = some (.int .u16 0) ∧ W.cell? ⟨w5.heap.size, 6, none⟩ = some (.int .u16 0) ∧ W.cell? ⟨w5.heap.size, 7, none⟩ = some (.int .u16 0))) (first | exact ⟨CX, CY⟩ | assumption | exact keep16 (x := one) (y := two) (by assumption) (by assumption)) (first | (go_at_call 50; ((with_reducible refine (one_any _).mono ?_); (unfold ic one; dsimp only); rintro e w8 ⟨rfl, hB8⟩)) | (go_at_call 40; ((with_reducible refine (hcb _).mono ?_); rintro e w9 ⟨rfl, hB9⟩)) | (go_at_call 31; ((with_reducible refine (pages_any 65 (by decide) (by decide) _).mono ?_); rintro e wa ⟨rfl, rfl⟩)))
  first | (rename_i hK; refine hK _ _ ?_; clear hK) | (rename_i hK _; refine hK _ _ ?_; clear hK) | (rename_i hK _ _; refine hK _ _ ?_; clear hK)
  go_wp2_with fail
  go_ret
  exact ⟨rfl, bt (bt B7.drew hB8) hB9⟩
end Go.Proofs.Ytcdmipgopffaaaa
