/- package inode: the walk through Put. -/
import Derived.Test.YtcdmipgopffaaaaInoCheck
import Derived.Deep.DeepCutAuto
import Derived.Deep.DrawnRows
namespace Go.Proofs.Ytcdmipgopffaaaa
open Go.RowKit
set_option maxRecDepth 20000
attribute [local go_sem ↓] Go.wp_at_zero Go.wp_at_succ

theorem check_may (x : Ino) (hw : x.Wf) (h : x.May) (w : World) : Calls Try.prog 40 #[.agg (ic x)] w fun e w' => e = .returned (.int .i64 0) ∧ Below w.heap.size w w' := by
  rcases h with rfl | ⟨hk, hl, hs, hd, hb⟩
  · exact check_zero w
  · by_cases h0 : x.d0 = 0 ∧ x.d1 = 0 ∧ x.d2 = 0 ∧ x.d3 = 0 ∧ x.n = 0
    · exact check_none x hw hk hl hs hd h0 w
    · exact (check_some x hw hk hl hs hd h0 w).mono fun e w' ⟨a, b, _⟩ => ⟨b hb, a⟩
theorem check_maynot (x : Ino) (hw : x.Wf) (h : ¬ x.May) (w : World) : Calls Try.prog 40 #[.agg (ic x)] w fun e w' => e = .returned (.int .i64 2) ∧ Below w.heap.size w w' := by
  have hz : x ≠ Ino.zero := fun e => h (.inl e)
  by_cases hk : x.k = 1 ∨ x.k = 2
  · by_cases hbad : 200 < x.l ∨ 2304 < x.s ∨ (x.k = 2 ∧ x.s % 64 ≠ 0)
    · exact check_bad x hw hk hbad w
    · have hl : x.l ≤ 200 := by omega
      have hs : x.s ≤ 2304 := by omega
      have hd : x.k = 2 → x.s % 64 = 0 := by omega
      have hb : ¬ BlksOk x.s x.ds := fun hb => h (.inr ⟨hk, hl, hs, hd, hb⟩)
      have h0 : ¬ (x.d0 = 0 ∧ x.d1 = 0 ∧ x.d2 = 0 ∧ x.d3 = 0 ∧ x.n = 0) := by
        rintro ⟨e0, e1, e2, e3, e4⟩
        apply hb
        intro i hi hne
        exfalso
        apply hne
        have hi5 : i < 5 := hi
        rcases (by omega : i = 0 ∨ i = 1 ∨ i = 2 ∨ i = 3 ∨ i = 4) with rfl | rfl | rfl | rfl | rfl
        · exact e0
        · exact e1
        · exact e2
        · exact e3
        · exact e4
      exact (check_some x hw hk hl hs hd h0 w).mono fun e w' ⟨a, _, b⟩ => ⟨b hb, a⟩
  · exact check_kind x hw hz (fun e => hk (.inl e)) (fun e => hk (.inr e)) w

/-- An inode's numbers of two bytes. -/
def Ino.nums (x : Ino) : List Int := [x.k, x.l, x.s % 65536, x.s / 65536, x.d0, x.d1, x.d2, x.d3, x.n]
/-- An inode's bytes. -/
def Ino.bytes (x : Ino) : List UInt8 := pby x.nums ++ zeros 14
theorem Ino.bytes_length (x : Ino) : x.bytes.length = 32 := by simp [Ino.bytes, pby_length, zeros_length, Ino.nums]
theorem wf_u16 {n : Int} (h0 : 0 ≤ n) (h1 : n < 65536) : (Lit.int .u16 n).wf = true := by
  simp [Lit.wf, IntKind.min, IntKind.max, IntKind.signed, IntKind.bits]
  omega
theorem Ino.nums_wf {x : Ino} (h : x.Wf) : ∀ n ∈ x.nums, (Lit.int .u16 n).wf = true := by
  obtain ⟨wk, wl, ws, w0, w1, w2, w3, wn⟩ := h
  intro n hn
  simp only [Ino.nums, List.mem_cons, List.not_mem_nil, or_false] at hn
  rcases hn with rfl | rfl | rfl | rfl | rfl | rfl | rfl | rfl | rfl <;> exact wf_u16 (by omega) (by omega)

theorem cellAl {W : World} {o : Obj} {b i : Nat} {v : Value} (h : W.cell? ⟨b, i, none⟩ = some v) : (W.alloc o).cell? ⟨b, i, none⟩ = some v := by
  have hlt := lt_of_cell h
  exact (World.cell?_of_block (w := W) (a := ⟨b, i, none⟩) (hp_old W o hlt)).trans h
theorem cellGr {W W' : World} (hg : W.grownBy W' none) {b i : Nat} {v : Value} (h : W.cell? ⟨b, i, none⟩ = some v) : W'.cell? ⟨b, i, none⟩ = some v := by
  have hlt := lt_of_cell h
  exact (World.cell?_of_block (w := W) (a := ⟨b, i, none⟩) (hg.block b hlt (by simp))).trans h
theorem cellBl {W W' : World} (hb : Below W.heap.size W W') {b i : Nat} {v : Value} (h : W.cell? ⟨b, i, none⟩ = some v) : W'.cell? ⟨b, i, none⟩ = some v := by
  have hlt := lt_of_cell h
  exact (hb.cell (p := ⟨b, i, none⟩) hlt).trans h
/-- The eight cells of an inode. -/
def C8 (W : World) (b : Nat) (x : Ino) : Prop := W.cell? ⟨b, 0, none⟩ = some (.int .u8 x.k) ∧ W.cell? ⟨b, 1, none⟩ = some (.int .u16 x.l) ∧ W.cell? ⟨b, 2, none⟩ = some (.int .u32 x.s) ∧ W.cell? ⟨b, 3, none⟩ = some (.int .u16 x.d0) ∧ W.cell? ⟨b, 4, none⟩ = some (.int .u16 x.d1) ∧ W.cell? ⟨b, 5, none⟩ = some (.int .u16 x.d2) ∧ W.cell? ⟨b, 6, none⟩ = some (.int .u16 x.d3) ∧ W.cell? ⟨b, 7, none⟩ = some (.int .u16 x.n)
theorem C8.step {W W' : World} {b : Nat} {x : Ino} (hst : ∀ i v, W.cell? ⟨b, i, none⟩ = some v → W'.cell? ⟨b, i, none⟩ = some v) (h : C8 W b x) : C8 W' b x :=
  ⟨hst _ _ h.1, hst _ _ h.2.1, hst _ _ h.2.2.1, hst _ _ h.2.2.2.1, hst _ _ h.2.2.2.2.1, hst _ _ h.2.2.2.2.2.1, hst _ _ h.2.2.2.2.2.2.1, hst _ _ h.2.2.2.2.2.2.2⟩
theorem C8.olds {W : World} {b : Nat} {x : Ino} (h : C8 W b x) : ∀ b', some (⟨b, 3, none⟩ : Addr) = some b' → ∀ j u, (u16s [x.d0, x.d1, x.d2, x.d3])[j]? = some u → W.cell? (b'.add j) = some u := by
  rintro b' ⟨⟩ j u hj
  rw [Addr.add_lit]
  obtain ⟨_, _, _, h0, h1, h2, h3, _⟩ := h
  rcases j with _ | _ | _ | _ | j
  · cases hj; exact h0
  · cases hj; exact h1
  · cases hj; exact h2
  · cases hj; exact h3
  · simp [u16s] at hj

theorem gr_blk {W W' : World} (hg : W.grownBy W' none) {l : Nat} {o : Obj} (h : W.heap[l]? = some o) : W'.heap[l]? = some o := (hg.block l (blk_lt h) (by simp)).trans h
theorem olds4 {W : World} {b : Nat} {zs : List Int} {t : TypeId} (h : W.heap[b]? = some (.cells (u16s zs).toArray t (0, 0))) : ∀ b', some (⟨b, 0, none⟩ : Addr) = some b' → ∀ j u, (u16s zs)[j]? = some u → W.cell? (b'.add j) = some u := by
  rintro b' ⟨⟩ j u hj
  rw [Addr.add_lit, Nat.zero_add, cl_of h]
  simpa using hj
theorem news5 {W : World} {g : Nat} {cur : Array Value} {xs : List Value} {t : TypeId} (h : W.heap[g]? = some (.cells cur t (0, 0))) (hx : ∀ (k : Nat) (u : Value), xs[k]? = some u → cur[k]? = some u) : ∀ (j : Nat) u, xs[j]? = some u → W.cell? ((⟨g, 0, none⟩ : Addr).add j) = some u := by
  intro j u hj
  rw [Addr.add_lit, Nat.zero_add, cl_of h]
  exact hx j u hj
theorem one_u16s (zs : List Int) : ∀ u ∈ u16s zs, u.oneCell' = true := by
  intro u hu
  simp only [u16s, List.mem_map] at hu
  obtain ⟨n, _, rfl⟩ := hu
  rfl
theorem sli_row {W : World} {g cap : Nat} {cur : Array Value} {zs : List Int} {t : TypeId} (h : W.heap[g]? = some (.cells cur t (0, 0))) (hx : ∀ (k : Nat) (u : Value), (u16s zs)[k]? = some u → cur[k]? = some u) (hw : ∀ n ∈ zs, (Lit.int .u16 n).wf = true) : SlI .u16 W (.slice (some ⟨g, 0, none⟩) zs.length cap) zs :=
  ⟨⟨_, cap, rfl, fun _ => ⟨g, 0, rfl, blk_lt h, fun j hj => by rw [Nat.zero_add, cl_of h]; exact hx j _ (u16s_get zs hj)⟩⟩, hw⟩

set_option maxHeartbeats 4000000 in
theorem iput_no (x : Ino) (hw : x.Wf) (h : ¬ x.May) (w : World) : Calls Try.prog 29 #[.agg (ic x)] w fun e w' => e = .returned (.tuple #[.string (bs []), .int .i64 2]) ∧ Below w.heap.size w w' := by
  have hc := check_maynot x hw h
  unfold ic at hc ⊢
  go_enter Try.func29, Try.ntmps29
  go_wp2_with fail
  refine (hc _).mono ?_
  rintro e w1 ⟨rfl, hB⟩
  go_wp2_with fail
  go_ret2
  exact ⟨rfl, bt (bnew _ _) hB⟩

set_option maxHeartbeats 4000000 in
theorem iput_yes (x : Ino) (hw : x.Wf) (h : x.May) (w : World) : Calls Try.prog 29 #[.agg (ic x)] w fun e w' => e = .returned (.tuple #[.string (bs x.bytes), .int .i64 0]) ∧ Below w.heap.size w w' := by
  have hc := check_may x hw h
  have hnw := Ino.nums_wf hw
  obtain ⟨wk, wl, ws, w0, w1, w2, w3, wn⟩ := hw
  obtain ⟨i0, hi, hz0, hz1, hz2⟩ := info_parts Try.infoU16
  have e1 : IntKind.u16.wrap x.k = x.k := IntWalk.u16_in _ (by omega)
  have e2 : IntKind.u16.wrap x.s = x.s % 65536 := by simp [IntKind.wrap_u16]
  have e3 : IntKind.u16.wrap (x.s / 65536) = x.s / 65536 := IntWalk.u16_in _ (by omega)
  unfold ic at hc ⊢
  have hb0 := hp_new w (.cells #[.int .u8 x.k, .int .u16 x.l, .int .u32 x.s, .int .u16 x.d0, .int .u16 x.d1, .int .u16 x.d2, .int .u16 x.d3, .int .u16 x.n] 51) rfl
  go_enter Try.func29, Try.ntmps29
  go_wp2_with fail
  refine (hc _).mono ?_
  rintro e w1 ⟨rfl, hB⟩
  have hb1 := bblk hB hb0
  have hC : C8 w1 w.heap.size x := ⟨cl_of hb1 0, cl_of hb1 1, cl_of hb1 2, cl_of hb1 3, cl_of hb1 4, cl_of hb1 5, cl_of hb1 6, cl_of hb1 7⟩
  have B1 := bt (bnew w (.cells #[.int .u8 x.k, .int .u16 x.l, .int .u32 x.s, .int .u16 x.d0, .int .u16 x.d1, .int .u16 x.d2, .int .u16 x.d3, .int .u16 x.n] 51)) hB
  have hlt := blk_lt hb1
  have HC := Lib.hid hc
  clear hc hB hb0 hb1
  go_upto_region 4 with (fail)
  have g0 := hC.1
  have g1 := hC.2.1
  have g2 := hC.2.2.1
  have g7 := hC.2.2.2.2.2.2.2
  go_cut [5] (fun s5 wx => s5 = .string (bs (pby x.nums)) ∧ Below w.heap.size w wx)
  case first =>
    go_region_held3 (fun W => W.cell? ⟨w.heap.size, 0, none⟩ = some (.int .u8 x.k) ∧ W.cell? ⟨w.heap.size, 1, none⟩ = some (.int .u16 x.l) ∧ W.cell? ⟨w.heap.size, 2, none⟩ = some (.int .u32 x.s) ∧ W.cell? ⟨w.heap.size, 3, none⟩ = some (.int .u16 x.d0) ∧ W.cell? ⟨w.heap.size, 4, none⟩ = some (.int .u16 x.d1) ∧ W.cell? ⟨w.heap.size, 5, none⟩ = some (.int .u16 x.d2) ∧ W.cell? ⟨w.heap.size, 6, none⟩ = some (.int .u16 x.d3) ∧ W.cell? ⟨w.heap.size, 7, none⟩ = some (.int .u16 x.n)) (first | exact hC | exact C8.step (fun _ _ => cellAl) hC | exact C8.step (fun _ _ => cellAl) (C8.step (fun _ _ => cellAl) hC) | exact hCb | exact hCa | exact C8.step (fun _ _ => cellAl) hCa | exact C8.step (fun _ _ => cellBl hB3) hCb) (first | ((refine step_append_grows (by rfl) (.tmp 25) (.tmp 28) 58 (by rfl) 40 i0 (.int .u16 0) 1 2 Try.underlying58 hi hz0 hz1 hz2 rfl (by decide) (some ⟨w.heap.size, 3, none⟩) 4 4 (u16s [x.d0, x.d1, x.d2, x.d3]) (by rfl) (fun h => by cases h) (by rfl) (C8.olds (x := x) (by assumption)) _ 1 1 [.int .u16 x.n] (by rfl) (by rfl) (news_at (by first | exact hp_new _ _ (by simp) | exact blk_old (hp_new _ _ (by simp)) _)) (oneU16 _) (by decide) (by decide) (by decide) ?_); intro v' w' hown hgrow; obtain ⟨g, cp, cur, hv', hgb, hgc, hgx⟩ := own_row hown; rw [hv']; have hCa : C8 w' w.heap.size x := C8.step (fun _ _ => cellGr hgrow) (by assumption); have hBa : Below w.heap.size w w' := Below.grown (by first | exact (bal (bal B1 _) _).drew | exact (bal B1 _).drew | exact bal (bal B1 _) _ | exact bal B1 _) hgrow (by first | exact (bal (bal B1 _) _).drew.size | exact (bal B1 _).drew.size) (fun k hk => by cases hk); clear hv' hown) | ((refine step_append_grows (by rfl) (.tmp 23) (.tmp 29) 58 (by rfl) 40 i0 (.int .u16 0) 1 2 Try.underlying58 hi hz0 hz1 hz2 rfl (by decide) (some ⟨_, 0, none⟩) 4 4 (u16s [x.k, x.l, x.s % 65536, x.s / 65536]) (by rfl) (fun h => by cases h) (by rfl) (olds4 (by first | exact gr_blk hgrow (hp_new _ _ (by simp)) | exact gr_blk hgrow (blk_old (hp_new _ _ (by simp)) _) | exact hp_new _ _ (by simp))) ⟨g, 0, none⟩ 5 cp (u16s x.ds) (by rfl) (by rfl) (news5 (by first | exact hgc | exact blk_old hgc _) hgx) (one_u16s _) (by decide) (by decide) (by decide) ?_); intro v2 w2 hown2 hgrow2; obtain ⟨g2, cp2, cur2, hv2, hgb2, hgc2, hgx2⟩ := own_row (n := 8) hown2; rw [hv2]; have hCb : C8 w2 w.heap.size x := C8.step (fun _ _ => cellGr hgrow2) (by assumption); have hBb : Below w.heap.size w w2 := Below.grown (by first | exact hBa | exact bal hBa _ | exact (bal hBa _).drew) hgrow2 (by first | exact hBa.size | exact (bal hBa _).size) (fun k hk => by cases hk); clear hv2 hown2) | (go_at_call 51; refine (put_any (sli_row (zs := x.nums) hgc2 hgx2 hnw) (by show (9 : Nat) ≤ 1000; decide)).mono ?_; rintro e w3 ⟨rfl, hB3⟩))
    all_goals
      first | (rename_i hK; refine hK _ _ ?_; clear hK) | (rename_i hK _; refine hK _ _ ?_; clear hK) | (rename_i hK _ _; refine hK _ _ ?_; clear hK)
      go_wp2_with fail
      go_meet
      exact ⟨rfl, bt hBb hB3⟩
  case rest =>
    obtain ⟨rfl, hB⟩ := hcut
    go_wp2_with fail
    refine (pad_any (pby x.nums) 32 (by rw [pby_length]; show 2 * 9 ≤ 32; decide) (by decide) _).mono ?_
    rintro e w2 ⟨rfl, hB2⟩
    go_wp2_with fail
    go_ret2
    exact ⟨rfl, bt hB hB2⟩
end Go.Proofs.Ytcdmipgopffaaaa
