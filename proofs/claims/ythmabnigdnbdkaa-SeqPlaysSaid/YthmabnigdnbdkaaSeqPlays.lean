/- SeqPlays: what counters have, and which cells are touched how, whatever is done. -/
import Derived.Test.YthmabnigdnbdkaaRefSeq
import Derived.Test.YthmabnigdnbdkaaSeqOff
import Derived.Test.YthmabnigdnbdkaaSteps15
import Derived.Deep.DeepCutAuto
import Derived.Deep.CutBlock
namespace Go.Proofs.Ythmabnigdnbdkaa
open Go.RowKit
set_option maxRecDepth 100000

structure SP (w0 : World) (p m s q t : Nat) (base : Int) (on : Bool) (N : List (Int × Int)) (S : List Touch) (L : List (Int × Int)) (S2 : List Touch) (W : World) : Prop where
  duo : Duo w0 p m q on N S true L S2 W
  clk : SeqAt W s p base
  rclk : RSeq W t q base
theorem SP.fr {w0 w w' : World} {p m s q t : Nat} {base : Int} {on : Bool} {N L : List (Int × Int)} {S S2 : List Touch} (h : SP w0 p m s q t base on N S L S2 w) (hf : Fr (fun _ => False) w w') : SP w0 p m s q t base on N S L S2 w' := ⟨h.duo.fr hf, h.clk.kt (Kt2.fr hf), h.rclk.kt (Kt2.fr hf)⟩
theorem SP.drew {w0 w : World} {p m s q t : Nat} {base : Int} {on : Bool} {N L : List (Int × Int)} {S S2 : List Touch} (h : SP w0 p m s q t base on N S L S2 w) : SP w0 p m s q t base on N S L S2 w.drew := h.fr (Fr.refl _ _).drew

section
variable {w0 w : World} {p m s q t : Nat} {base : Int} {on : Bool} {N L : List (Int × Int)} {S S2 : List Touch}
theorem sp_begin (h : SP w0 p m s q t base on N S L S2 w) (hn : Few S) (core k : Int) :
    Calls Try.prog 36 #[.pointer (some ⟨s, 0, none⟩), .int .i64 core, .int .u64 k] w fun e w' => e = .returned (.int .i64 (nget (u64s base k) N)) ∧ SP w0 p m s q t base on N (logged on S ⟨core, u64s base k, false⟩) L S2 w' ∧ Kt2 w w' := by
  obtain ⟨sv, hc, hstep⟩ := h.duo.c
  refine (seq_begin h.clk hc hn core k).mono ?_
  rintro e w' ⟨rfl, hst⟩
  obtain ⟨hd, hk⟩ := hstep _ _ _ _ hst
  exact ⟨rfl, ⟨hd, h.clk.kt hk, h.rclk.kt hk⟩, hk⟩
theorem sp_same (h : SP w0 p m s q t base on N S L S2 w) (hn : Few S) (core k v : Int) :
    Calls Try.prog 37 #[.pointer (some ⟨s, 0, none⟩), .int .i64 core, .int .u64 k, .int .i64 v] w fun e w' => e = .returned (.bool (decide (nget (u64s base k) N = v ∧ v.tmod 2 = 0))) ∧ SP w0 p m s q t base on N (logged on S ⟨core, u64s base k, false⟩) L S2 w' ∧ Kt2 w w' := by
  obtain ⟨sv, hc, hstep⟩ := h.duo.c
  refine (seq_same h.clk hc hn core k v).mono ?_
  rintro e w' ⟨rfl, hst⟩
  obtain ⟨hd, hk⟩ := hstep _ _ _ _ hst
  exact ⟨rfl, ⟨hd, h.clk.kt hk, h.rclk.kt hk⟩, hk⟩
theorem sp_open (h : SP w0 p m s q t base on N S L S2 w) (hn : Few S) (core k : Int) :
    Calls Try.prog 34 #[.pointer (some ⟨s, 0, none⟩), .int .i64 core, .int .u64 k] w fun e w' => e = .returned (.tuple #[]) ∧ SP w0 p m s q t base on (nput (u64s base k) (wrap64 (nget (u64s base k) N + 1)) N) (logged on S ⟨core, u64s base k, true⟩) L S2 w' ∧ Kt2 w w' := by
  obtain ⟨sv, hc, hstep⟩ := h.duo.c
  refine (seq_open h.clk hc hn core k).mono ?_
  rintro e w' ⟨rfl, hst⟩
  obtain ⟨hd, hk⟩ := hstep _ _ _ _ hst
  exact ⟨rfl, ⟨hd, h.clk.kt hk, h.rclk.kt hk⟩, hk⟩
theorem sp_close (h : SP w0 p m s q t base on N S L S2 w) (hn : Few S) (core k : Int) :
    Calls Try.prog 35 #[.pointer (some ⟨s, 0, none⟩), .int .i64 core, .int .u64 k] w fun e w' => e = .returned (.tuple #[]) ∧ SP w0 p m s q t base on (nput (u64s base k) (wrap64 (nget (u64s base k) N + 1)) N) (logged on S ⟨core, u64s base k, true⟩) L S2 w' ∧ Kt2 w w' := by
  obtain ⟨sv, hc, hstep⟩ := h.duo.c
  refine (seq_close h.clk hc hn core k).mono ?_
  rintro e w' ⟨rfl, hst⟩
  obtain ⟨hd, hk⟩ := hstep _ _ _ _ hst
  exact ⟨rfl, ⟨hd, h.clk.kt hk, h.rclk.kt hk⟩, hk⟩
theorem sp_write (h : SP w0 p m s q t base on N S L S2 w) (hn : Few S) (core k v : Int) :
    Calls Try.prog 22 #[.pointer (some ⟨p, 0, none⟩), .int .i64 core, .int .u64 k, .int .i64 v] w fun e w' => e = .returned (.tuple #[]) ∧ SP w0 p m s q t base on (nput k v N) (logged on S ⟨core, k, true⟩) L S2 w' ∧ Kt2 w w' := by
  obtain ⟨sv, hc, hstep⟩ := h.duo.c
  refine (write_any hc hn core k v).mono ?_
  rintro e w' ⟨rfl, hst⟩
  obtain ⟨hd, hk⟩ := hstep _ _ _ _ hst
  exact ⟨rfl, ⟨hd, h.clk.kt hk, h.rclk.kt hk⟩, hk⟩
theorem sp_rbegin (h : SP w0 p m s q t base on N S L S2 w) (hn : Few S2) (hl : L.length ≤ 10000) (core k : Int) :
    Calls Try.prog 39 #[.pointer (some ⟨t, 0, none⟩), .int .i64 core, .int .u64 k] w fun e w' => e = .returned (.int .i64 (nget (u64s base k) L)) ∧ SP w0 p m s q t base on N S L (logged true S2 ⟨core, u64s base k, false⟩) w' ∧ Kt2 w w' := by
  obtain ⟨vL, vS, hr, hstep⟩ := h.duo.r
  refine (rseq_begin h.rclk hr hn hl core k).mono ?_
  rintro e w' ⟨rfl, hst⟩
  obtain ⟨hd, hk⟩ := hstep _ _ _ _ hst
  exact ⟨rfl, ⟨hd, h.clk.kt hk, h.rclk.kt hk⟩, hk⟩
theorem sp_rsame (h : SP w0 p m s q t base on N S L S2 w) (hn : Few S2) (hl : L.length ≤ 10000) (core k v : Int) :
    Calls Try.prog 40 #[.pointer (some ⟨t, 0, none⟩), .int .i64 core, .int .u64 k, .int .i64 v] w fun e w' => e = .returned (.bool (decide (nget (u64s base k) L = v ∧ v.tmod 2 = 0))) ∧ SP w0 p m s q t base on N S L (logged true S2 ⟨core, u64s base k, false⟩) w' ∧ Kt2 w w' := by
  obtain ⟨vL, vS, hr, hstep⟩ := h.duo.r
  refine (rseq_same h.rclk hr hn hl core k v).mono ?_
  rintro e w' ⟨rfl, hst⟩
  obtain ⟨hd, hk⟩ := hstep _ _ _ _ hst
  exact ⟨rfl, ⟨hd, h.clk.kt hk, h.rclk.kt hk⟩, hk⟩
theorem sp_rturn (h : SP w0 p m s q t base on N S L S2 w) (hn : Few S2) (hl : L.length ≤ 10000) (core k : Int) :
    Calls Try.prog 41 #[.pointer (some ⟨t, 0, none⟩), .int .i64 core, .int .u64 k] w fun e w' => e = .returned (.tuple #[]) ∧ SP w0 p m s q t base on N S (lset (u64s base k) (wrap64 (nget (u64s base k) L + 1)) L) (logged true S2 ⟨core, u64s base k, true⟩) w' ∧ Kt2 w w' := by
  obtain ⟨vL, vS, hr, hstep⟩ := h.duo.r
  refine (rseq_turn h.rclk hr hn hl core k).mono ?_
  rintro e w' ⟨rfl, hst⟩
  obtain ⟨hd, hk⟩ := hstep _ _ _ _ hst
  exact ⟨rfl, ⟨hd, h.clk.kt hk, h.rclk.kt hk⟩, hk⟩
theorem sp_rwrite (h : SP w0 p m s q t base on N S L S2 w) (hn : Few S2) (hl : L.length ≤ 10000) (core k v : Int) :
    Calls Try.prog 23 #[.pointer (some ⟨q, 0, none⟩), .int .i64 core, .int .u64 k, .int .i64 v] w fun e w' => e = .returned (.tuple #[]) ∧ SP w0 p m s q t base on N S (lset k v L) (logged true S2 ⟨core, k, true⟩) w' ∧ Kt2 w w' := by
  obtain ⟨vL, vS, hr, hstep⟩ := h.duo.r
  refine (ref_write hr hn hl core k v).mono ?_
  rintro e w' ⟨rfl, hst⟩
  obtain ⟨hd, hk⟩ := hstep _ _ _ _ hst
  exact ⟨rfl, ⟨hd, h.clk.kt hk, h.rclk.kt hk⟩, hk⟩
end
section
variable {w W : World} {p m s q t : Nat} {base : Int} {sv vL vS : Value} {on : Bool} {N L : List (Int × Int)} {S : List Touch}
theorem f_busy (hq : SeqAt w s p base) (hc : CellsAt w p m sv on N S) (hF : Fr (fun _ => False) w W) (k : Int) :
    Calls Try.prog 38 #[.pointer (some ⟨s, 0, none⟩), .int .u64 k] W fun e w' => e = .returned (.bool (decide (nget (u64s base k) N % 2 = 1))) ∧ Fr (fun _ => False) w w' :=
  (seq_busy (hq.fr hF id) (hc.fr hF fun _ _ => id) k).mono fun _ _ ⟨he, hf⟩ => ⟨he, hf ▸ hF.drew⟩
theorem f_rbusy (hq : RSeq w t q base) (hr : RefAt w q vL vS true L S) (hl : L.length ≤ 10000) (hs : ∀ k, nget k N = nget k L) (hF : Fr (fun _ => False) w W) (k : Int) :
    Calls Try.prog 42 #[.pointer (some ⟨t, 0, none⟩), .int .u64 k] W fun e w' => e = .returned (.bool (decide (nget (u64s base k) N % 2 = 1))) ∧ Fr (fun _ => False) w w' := by
  rw [hs]
  exact (rseq_busy (hq.kt (Kt2.fr hF)) (hr.fr hF fun _ _ => id) hl k).mono fun _ _ ⟨he, hf⟩ => ⟨he, hf ▸ hF.drew⟩
theorem f_seen (hc : CellsAt w p m sv on N S) (hn : Few S) (hF : Fr (fun _ => False) w W) :
    Calls Try.prog 29 #[.pointer (some ⟨p, 0, none⟩)] W fun e w' => ∃ ao cap, e = .returned (.slice ao S.length cap) ∧ w'.ownsRow 0 91 3 (.slice ao S.length cap) S.length (touches S) ∧ Fr (fun _ => False) w w' := by
  refine (cells_seen (hc.fr hF fun _ _ => id) hn).mono ?_
  rintro e w' ⟨v', rfl, hrow, hf⟩
  obtain ⟨ao, cap, hv, _⟩ := own_form (ownsRowB_zero hrow)
  subst hv
  exact ⟨ao, cap, rfl, ownsRowB_zero hrow, hF.trans hf⟩
theorem f_same {va : Value} (hr : RefAt w q vL vS true L S) (hn : Few S) (hF : Fr (fun _ => False) w W) (ha : W.ownsRow 0 91 3 va S.length (touches S)) :
    Calls Try.prog 28 #[va, vS] W fun e w' => e = .returned (.bool true) ∧ Fr (fun _ => False) w w' :=
  (ref_same ha (hr.fr hF fun _ _ => id).rowS hn).mono fun _ _ ⟨he, hf⟩ => ⟨he, hF.trans hf⟩
end
theorem below_fr {w w' : World} (hf : Fr (fun _ => False) w w') : Below w.heap.size w w' := Fr.step (Below.refl _ w) hf (Nat.le_refl _) fun _ h => h.elim
theorem cp_start {w w3 w4 : World} {p m : Nat} {base : Int} (hB : Below w.heap.size w w3) (hc : CellsAt w3 p m (.slice none 0 0) false [] []) (hp : w.heap.size ≤ p) (hm : w.heap.size ≤ m)
    (hst : CStep (w3.alloc (.cells #[.pointer (some ⟨p, 0, none⟩), .int .u64 base] 112)) p m (.slice none 0 0) true [] [] w4) :
    SP w p m w3.heap.size w4.heap.size (w4.heap.size + 1) base true [] [] [] [] ((w4.alloc (.cells #[.slice none 0 0, .slice none 0 0, .bool true] 44)).alloc (.cells #[.pointer (some ⟨w4.heap.size, 0, none⟩), .int .u64 base] 64)) := by
  have hq : SeqAt (w3.alloc (.cells #[.pointer (some ⟨p, 0, none⟩), .int .u64 base] 112)) w3.heap.size p base := hp_new _ _ rfl
  obtain ⟨sv', a, b, c⟩ := hst
  have hc1 := hc.alloc (.cells #[.pointer (some ⟨p, 0, none⟩), .int .u64 base] 112)
  have hs3 := hB.size
  have hB1 : Below w.heap.size w (w3.alloc (.cells #[.pointer (some ⟨p, 0, none⟩), .int .u64 base] 112)) := hB.alloc hs3 _
  have hf0 : ∀ k, cfoot p m (.slice none 0 0) k → w.heap.size ≤ k := by
    rintro k (rfl | rfl | hg)
    · exact hp
    · exact hm
    · cases hg
  have hf1 : ∀ k, cfoot p m sv' k → w.heap.size ≤ k := by
    rintro k (rfl | rfl | hg)
    · exact hp
    · exact hm
    · rcases c with c | ⟨g, hg', hl⟩
      · rw [c] at hg; cases hg
      · rw [hg] at hg'; cases hg'
        have := hB1.size
        omega
  have hB4 : Below w.heap.size w w4 := Fr.step hB1 b hB1.size hf0
  have hq4 : SeqAt w4 w3.heap.size p base := hq.fr b (hq.apart hc1)
  have hd := Duo.start (q := w4.heap.size) (on2 := true) a hf1 hB4 rfl
  refine ⟨hd.alloc _, ?_, hp_new _ _ (by simp)⟩
  have h4 := hq4.lt
  exact (hp_old _ _ (by simp; omega)).trans ((hp_old _ _ h4).trans hq4)
theorem same_put {N L : List (Int × Int)} (h : ∀ j, nget j N = nget j L) (c v : Int) : ∀ j, nget j (nput c v N) = nget j (lset c v L) := fun j => by rw [nget_put, nget_lset, h]
theorem kt_cell {w W : World} {b : Nat} {cs : Array Value} (h : w.heap[b]? = some (.cells cs 66 (0, 0))) (k : Kt2 w W) (i : Nat) : W.cell? ⟨b, i, none⟩ = cs[i]? :=
  cl_of ((k b _ _ _ h (by decide) (by decide) (by decide) (by decide)).trans h) i

set_option maxHeartbeats 400000 in
theorem seqnil_turn (w : World) (core k : Int) : Calls Try.prog 62 #[.pointer none, .int .i64 core, .int .u64 k] w fun e w' => e = .returned (.tuple #[]) ∧ Fr (fun _ => False) w w' := by
  go_enter Try.func62, Try.ntmps62
  go_wp2_with fail
  go_end0
  exact ⟨rfl, ((((Fr.refl (fun _ => False) w).alloc _).alloc _).alloc _)⟩
set_option maxHeartbeats 400000 in
theorem seqnil_open (w : World) (core k : Int) : Calls Try.prog 34 #[.pointer none, .int .i64 core, .int .u64 k] w fun e w' => e = .returned (.tuple #[]) ∧ Fr (fun _ => False) w w' := by
  go_enter Try.func34, Try.ntmps34
  go_wp2_with fail
  refine (seqnil_turn w core k).mono ?_
  rintro e w' ⟨rfl, hf⟩
  go_wp2_with fail
  go_end0
  exact ⟨rfl, hf⟩
set_option maxHeartbeats 400000 in
theorem seqnil_close (w : World) (core k : Int) : Calls Try.prog 35 #[.pointer none, .int .i64 core, .int .u64 k] w fun e w' => e = .returned (.tuple #[]) ∧ Fr (fun _ => False) w w' := by
  go_enter Try.func35, Try.ntmps35
  go_wp2_with fail
  refine (seqnil_turn w core k).mono ?_
  rintro e w' ⟨rfl, hf⟩
  go_wp2_with fail
  go_end0
  exact ⟨rfl, hf⟩
set_option maxHeartbeats 400000 in
theorem seqnil_begin (w : World) (core k : Int) : Calls Try.prog 36 #[.pointer none, .int .i64 core, .int .u64 k] w fun e w' => e = .returned (.int .i64 0) ∧ Fr (fun _ => False) w w' := by
  go_enter Try.func36, Try.ntmps36
  go_wp2_with fail
  first | (rename_i hK; refine hK _ _ ?_; go_wp2_with fail) | skip
  go_ret
  exact ⟨rfl, by first | exact Fr.refl _ _ | exact (Fr.refl _ _).drew | exact ⟨rfl, rfl, rfl, Nat.le_refl _, fun _ _ _ => rfl⟩⟩
set_option maxHeartbeats 400000 in
theorem seqnil_same (w : World) (core k v : Int) : Calls Try.prog 37 #[.pointer none, .int .i64 core, .int .u64 k, .int .i64 v] w fun e w' => e = .returned (.bool false) ∧ Fr (fun _ => False) w w' := by
  go_enter Try.func37, Try.ntmps37
  go_wp2_with fail
  first | (rename_i hK; refine hK _ _ ?_; go_wp2_with fail) | skip
  go_ret
  exact ⟨rfl, by first | exact Fr.refl _ _ | exact (Fr.refl _ _).drew | exact ⟨rfl, rfl, rfl, Nat.le_refl _, fun _ _ _ => rfl⟩⟩
set_option maxHeartbeats 400000 in
theorem seqnil_busy (w : World) (k : Int) : Calls Try.prog 38 #[.pointer none, .int .u64 k] w fun e w' => e = .returned (.bool false) ∧ Fr (fun _ => False) w w' := by
  go_enter Try.func38, Try.ntmps38
  go_wp2_with fail
  go_quiet (fail)
  go_wp2_with fail
  go_ret
  exact ⟨rfl, by first | exact Fr.refl _ _ | exact (Fr.refl _ _).drew | exact ⟨rfl, rfl, rfl, Nat.le_refl _, fun _ _ _ => rfl⟩⟩
theorem logged_len (on : Bool) (S : List Touch) (x : Touch) : (logged on S x).length ≤ S.length + 1 := by
  unfold logged; split <;> simp
set_option maxHeartbeats 4000000 in
theorem seqplays_walk (base : Int) (v : Value) (ls : List Stq) (kk : Int) (_hwb : (Lit.int .u64 base).wf = true) {w : World} (hs : SlQ w v ls) (_hwk : (Lit.int .u64 kk).wf = true) :
    Calls Try.prog 7 #[.int .u64 base, v, .int .u64 kk] w fun e w' => e = .returned (.bool true) ∧ Below w.heap.size w w' := by
  obtain ⟨⟨ao, cap, rfl, hcs⟩, hzw⟩ := hs
  by_cases hlong : ls.length ≤ 150
  rotate_left
  · go_enter Try.func7, Try.ntmps7
    go_wp2_with fail
    refine (alive15 _).mono ?_
    rintro e w1 ⟨rfl, hB⟩
    go_wp2_with fail
    go_ret
    exact ⟨rfl, hB⟩
  · go_enter Try.func7, Try.ntmps7
    go_wp2_with fail
    refine (seqnil_open _ _ _).mono ?_
    rintro e w1 ⟨rfl, f1⟩
    go_wp2_with fail
    refine (seqnil_close _ _ _).mono ?_
    rintro e w2 ⟨rfl, f2⟩
    go_wp2_with fail
    refine (seqnil_begin _ _ _).mono ?_
    rintro e w3 ⟨rfl, f3⟩
    go_wp2_with fail
    refine (seqnil_same _ _ _ _).mono ?_
    rintro e w4 ⟨rfl, f4⟩
    go_wp2_with fail
    refine (seqnil_busy _ _).mono ?_
    rintro e w5 ⟨rfl, f5⟩
    have fa := f1.trans (f2.trans (f3.trans (f4.trans f5)))
    clear f1 f2 f3 f4 f5
    go_wp2_with fail
    refine (cells_new _).mono ?_
    rintro e w3 ⟨p, m, rfl, hc, hb, hp, hm⟩
    go_wp2_with fail
    refine (seq_new _ p base).mono ?_
    rintro e w4 ⟨rfl, hq, rfl⟩
    go_wp2_with fail
    refine (cells_note (hc.alloc _) true).mono ?_
    rintro e w4 ⟨rfl, hst⟩
    go_wp2_with fail
    have hB3 : Below w.heap.size w w3 := (below_fr fa).trans (hb.mono fa.size)
    have hP := cp_start hB3 hc (by have := fa.size; omega) (by have := fa.size; omega) hst
    clear hst hq hc hb hp hm hB3 fa
    generalize w3.heap.size = s at hP
    go_loopw [11] (fun v11 wr => ∃ k : Nat, ∃ N L : List (Int × Int), ∃ S : List Touch, k ≤ ls.length ∧ v11 = .int .i64 k ∧ Hid ((∀ j, nget j N = nget j L) ∧ L.length ≤ k ∧ S.length ≤ 2 * k) ∧ SP w p m s w4.heap.size (w4.heap.size + 1) base true N S L S wr) (fun v11 _ => ls.length - (intOf v11).toNat)
    case atStart => exact ⟨0, [], [], [], by omega, rfl, Lib.hid ⟨fun _ => rfl, by simp, by simp⟩, hP⟩
    case round =>
      obtain ⟨k, N, L, S, hk, rfl, HN, hO⟩ := hrel
      clear hP
      generalize w4.heap.size + 1 = t at hO ⊢
      generalize w4.heap.size = q at hO ⊢
      by_cases hlt : k < ls.length
      · obtain ⟨b, off, rfl, hbl, hcell⟩ := hcs (by omega)
        obtain ⟨z0, z1, z2, z3⟩ := hcell k hlt
        rw [List.getD_eq_getElem?_getD, List.getElem?_eq_getElem hlt, Option.getD_some] at z0 z1 z2 z3
        generalize ls[k] = z at z0 z1 z2 z3
        obtain ⟨zo, zc, zk, zv⟩ := z
        dsimp only at z0 z1 z2 z3
        clear hcs hcell hzw
        have hB := hO.duo.below
        have y0 := (hB.cell (p := ⟨b, off + k * 4, none⟩) hbl).trans z0
        have y1 := (hB.cell (p := ⟨b, off + k * 4 + 1, none⟩) hbl).trans z1
        have y2 := (hB.cell (p := ⟨b, off + k * 4 + 2, none⟩) hbl).trans z2
        have y3 := (hB.cell (p := ⟨b, off + k * 4 + 3, none⟩) hbl).trans z3
        clear z0 z1 z2 z3
        have hlen : S.length ≤ 300 := by have := HN.out.2.2; omega
        have hll : L.length ≤ 150 := by have := HN.out.2.1; omega
        have hn : Few S := ⟨by omega⟩
        go_upto_block 2 with (fail)
        go_cut [13] (fun s13 wx => s13 = .bool true ∧ ∃ N' L' : List (Int × Int), ∃ S' : List Touch, Hid ((∀ j, nget j N' = nget j L') ∧ L'.length ≤ k + 1 ∧ S'.length ≤ 2 * (k + 1)) ∧ SP w p m s q t base true N' S' L' S' wx ∧ wx.heap[wr.heap.size]? = some (.cells #[.int .i64 zo, .int .i64 zc, .int .u64 zk, .int .i64 zv] 66 (0, 0)))
        case first =>
          have hbx := hp_new wr (.cells #[.int .i64 zo, .int .i64 zc, .int .u64 zk, .int .i64 zv] 66 (0, 0)) rfl
          have h5 := hO.fr ((Fr.refl _ _).alloc (.cells #[.int .i64 zo, .int .i64 zc, .int .u64 zk, .int .i64 zv] 66 (0, 0)))
          have B1 := cl_of hbx 1
          have B2 := cl_of hbx 2
          have B3 := cl_of hbx 3
          by_cases o0 : zo = 0
          · subst o0
            have hv0 : nget (u64s base zk) L = nget (u64s base zk) N := (HN.out.1 _).symm
            go_wp2_with fail
            go_region_held3 (fun W => W.cell? ⟨wr.heap.size, 1, none⟩ = some (.int .i64 zc) ∧ W.cell? ⟨wr.heap.size, 2, none⟩ = some (.int .u64 zk)) (first | exact ⟨B1, B2⟩ | assumption | exact ⟨kt_cell hbx (by assumption) 1, kt_cell hbx (by assumption) 2⟩) (first | (go_at_call 36; refine (sp_begin (by first | exact h5 | exact h5.drew) hn zc zk).mono ?_; rintro e w6 ⟨rfl, h6, k6⟩) | (go_at_call 39; refine (sp_rbegin (by first | exact h6 | exact h6.drew) hn (by omega) zc zk).mono ?_; rw [hv0]; rintro e w7 ⟨rfl, h7, k7⟩; replace k7 := Kt2.trans k6 k7))
            first | (rename_i hK; refine hK _ _ ?_; clear hK) | (rename_i hK _; refine hK _ _ ?_; clear hK) | (rename_i hK _ _; refine hK _ _ ?_; clear hK) | (rename_i hK _ _ _; refine hK _ _ ?_; clear hK) | (rename_i hK _ _ _ _; refine hK _ _ ?_; clear hK) | (rename_i hK _ _ _ _ _; refine hK _ _ ?_; clear hK) | (rename_i hK _ _ _ _ _ _; refine hK _ _ ?_; clear hK) | (rename_i hK _ _ _ _ _ _ _; refine hK _ _ ?_; clear hK) | (rename_i hK _ _ _ _ _ _ _ _; refine hK _ _ ?_; clear hK) | (rename_i hK _ _ _ _ _ _ _ _ _; refine hK _ _ ?_; clear hK) | (rename_i hK _ _ _ _ _ _ _ _ _ _; refine hK _ _ ?_; clear hK) | (rename_i hK _ _ _ _ _ _ _ _ _ _ _; refine hK _ _ ?_; clear hK) | (rename_i hK _ _ _ _ _ _ _ _ _ _ _ _; refine hK _ _ ?_; clear hK) | (rename_i hK _ _ _ _ _ _ _ _ _ _ _ _ _; refine hK _ _ ?_; clear hK) | (rename_i hK _ _ _ _ _ _ _ _ _ _ _ _ _ _; refine hK _ _ ?_; clear hK) | (rename_i hK _ _ _ _ _ _ _ _ _ _ _ _ _ _ _; refine hK _ _ ?_; clear hK) | (rename_i hK _ _ _ _ _ _ _ _ _ _ _ _ _ _ _ _; refine hK _ _ ?_; clear hK) | (rename_i hK _ _ _ _ _ _ _ _ _ _ _ _ _ _ _ _ _; refine hK _ _ ?_; clear hK) | (rename_i hK _ _ _ _ _ _ _ _ _ _ _ _ _ _ _ _ _ _; refine hK _ _ ?_; clear hK) | (rename_i hK _ _ _ _ _ _ _ _ _ _ _ _ _ _ _ _ _ _ _; refine hK _ _ ?_; clear hK) | (rename_i hK _ _ _ _ _ _ _ _ _ _ _ _ _ _ _ _ _ _ _ _; refine hK _ _ ?_; clear hK) | (rename_i hK _ _ _ _ _ _ _ _ _ _ _ _ _ _ _ _ _ _ _ _ _; refine hK _ _ ?_; clear hK) | (rename_i hK _ _ _ _ _ _ _ _ _ _ _ _ _ _ _ _ _ _ _ _ _ _; refine hK _ _ ?_; clear hK) | (rename_i hK _ _ _ _ _ _ _ _ _ _ _ _ _ _ _ _ _ _ _ _ _ _ _; refine hK _ _ ?_; clear hK) | (rename_i hK _ _ _ _ _ _ _ _ _ _ _ _ _ _ _ _ _ _ _ _ _ _ _ _; refine hK _ _ ?_; clear hK) | (rename_i hK _ _ _ _ _ _ _ _ _ _ _ _ _ _ _ _ _ _ _ _ _ _ _ _ _; refine hK _ _ ?_; clear hK) | (rename_i hK _ _ _ _ _ _ _ _ _ _ _ _ _ _ _ _ _ _ _ _ _ _ _ _ _ _; refine hK _ _ ?_; clear hK) | (rename_i hK _ _ _ _ _ _ _ _ _ _ _ _ _ _ _ _ _ _ _ _ _ _ _ _ _ _ _; refine hK _ _ ?_; clear hK) | (rename_i hK _ _ _ _ _ _ _ _ _ _ _ _ _ _ _ _ _ _ _ _ _ _ _ _ _ _ _ _; refine hK _ _ ?_; clear hK) | (rename_i hK _ _ _ _ _ _ _ _ _ _ _ _ _ _ _ _ _ _ _ _ _ _ _ _ _ _ _ _ _; refine hK _ _ ?_; clear hK) | (rename_i hK _ _ _ _ _ _ _ _ _ _ _ _ _ _ _ _ _ _ _ _ _ _ _ _ _ _ _ _ _ _; refine hK _ _ ?_; clear hK) | (rename_i hK _ _ _ _ _ _ _ _ _ _ _ _ _ _ _ _ _ _ _ _ _ _ _ _ _ _ _ _ _ _ _; refine hK _ _ ?_; clear hK) | (rename_i hK _ _ _ _ _ _ _ _ _ _ _ _ _ _ _ _ _ _ _ _ _ _ _ _ _ _ _ _ _ _ _ _; refine hK _ _ ?_; clear hK) | (rename_i hK _ _ _ _ _ _ _ _ _ _ _ _ _ _ _ _ _ _ _ _ _ _ _ _ _ _ _ _ _ _ _ _ _; refine hK _ _ ?_; clear hK) | (rename_i hK _ _ _ _ _ _ _ _ _ _ _ _ _ _ _ _ _ _ _ _ _ _ _ _ _ _ _ _ _ _ _ _ _ _; refine hK _ _ ?_; clear hK) | (rename_i hK _ _ _ _ _ _ _ _ _ _ _ _ _ _ _ _ _ _ _ _ _ _ _ _ _ _ _ _ _ _ _ _ _ _ _; refine hK _ _ ?_; clear hK) | (rename_i hK _ _ _ _ _ _ _ _ _ _ _ _ _ _ _ _ _ _ _ _ _ _ _ _ _ _ _ _ _ _ _ _ _ _ _ _; refine hK _ _ ?_; clear hK) | (rename_i hK _ _ _ _ _ _ _ _ _ _ _ _ _ _ _ _ _ _ _ _ _ _ _ _ _ _ _ _ _ _ _ _ _ _ _ _ _; refine hK _ _ ?_; clear hK) | (rename_i hK _ _ _ _ _ _ _ _ _ _ _ _ _ _ _ _ _ _ _ _ _ _ _ _ _ _ _ _ _ _ _ _ _ _ _ _ _ _; refine hK _ _ ?_; clear hK) | (rename_i hK _ _ _ _ _ _ _ _ _ _ _ _ _ _ _ _ _ _ _ _ _ _ _ _ _ _ _ _ _ _ _ _ _ _ _ _ _ _ _; refine hK _ _ ?_; clear hK)
            go_wp2_with fail
            go_meet
            have bx7 := (k7 wr.heap.size _ _ _ hbx (by decide) (by decide) (by decide) (by decide)).trans hbx
            refine ⟨by simp, _, _, _, Lib.hid ⟨HN.out.1, ?_, ?_⟩, h7, bx7⟩
            · have := HN.out.2.1; omega
            · have := HN.out.2.2; have := logged_len true S ⟨zc, u64s base zk, false⟩; omega
          · by_cases o1 : zo = 1
            · subst o1
              have hv0 : nget (u64s base zk) L = nget (u64s base zk) N := (HN.out.1 _).symm
              go_wp2_with fail
              go_region_held3 (fun W => W.cell? ⟨wr.heap.size, 1, none⟩ = some (.int .i64 zc) ∧ W.cell? ⟨wr.heap.size, 2, none⟩ = some (.int .u64 zk) ∧ W.cell? ⟨wr.heap.size, 3, none⟩ = some (.int .i64 zv)) (first | exact ⟨B1, B2, B3⟩ | assumption | exact ⟨kt_cell hbx (by assumption) 1, kt_cell hbx (by assumption) 2, kt_cell hbx (by assumption) 3⟩) (first | (go_at_call 37; refine (sp_same (by first | exact h5 | exact h5.drew) hn zc zk zv).mono ?_; rintro e w6 ⟨rfl, h6, k6⟩) | (go_at_call 40; refine (sp_rsame (by first | exact h6 | exact h6.drew) hn (by omega) zc zk zv).mono ?_; rw [hv0]; rintro e w7 ⟨rfl, h7, k7⟩; replace k7 := Kt2.trans k6 k7))
              first | (rename_i hK; refine hK _ _ ?_; clear hK) | (rename_i hK _; refine hK _ _ ?_; clear hK) | (rename_i hK _ _; refine hK _ _ ?_; clear hK) | (rename_i hK _ _ _; refine hK _ _ ?_; clear hK) | (rename_i hK _ _ _ _; refine hK _ _ ?_; clear hK) | (rename_i hK _ _ _ _ _; refine hK _ _ ?_; clear hK) | (rename_i hK _ _ _ _ _ _; refine hK _ _ ?_; clear hK) | (rename_i hK _ _ _ _ _ _ _; refine hK _ _ ?_; clear hK) | (rename_i hK _ _ _ _ _ _ _ _; refine hK _ _ ?_; clear hK) | (rename_i hK _ _ _ _ _ _ _ _ _; refine hK _ _ ?_; clear hK) | (rename_i hK _ _ _ _ _ _ _ _ _ _; refine hK _ _ ?_; clear hK) | (rename_i hK _ _ _ _ _ _ _ _ _ _ _; refine hK _ _ ?_; clear hK) | (rename_i hK _ _ _ _ _ _ _ _ _ _ _ _; refine hK _ _ ?_; clear hK) | (rename_i hK _ _ _ _ _ _ _ _ _ _ _ _ _; refine hK _ _ ?_; clear hK) | (rename_i hK _ _ _ _ _ _ _ _ _ _ _ _ _ _; refine hK _ _ ?_; clear hK) | (rename_i hK _ _ _ _ _ _ _ _ _ _ _ _ _ _ _; refine hK _ _ ?_; clear hK) | (rename_i hK _ _ _ _ _ _ _ _ _ _ _ _ _ _ _ _; refine hK _ _ ?_; clear hK) | (rename_i hK _ _ _ _ _ _ _ _ _ _ _ _ _ _ _ _ _; refine hK _ _ ?_; clear hK) | (rename_i hK _ _ _ _ _ _ _ _ _ _ _ _ _ _ _ _ _ _; refine hK _ _ ?_; clear hK) | (rename_i hK _ _ _ _ _ _ _ _ _ _ _ _ _ _ _ _ _ _ _; refine hK _ _ ?_; clear hK) | (rename_i hK _ _ _ _ _ _ _ _ _ _ _ _ _ _ _ _ _ _ _ _; refine hK _ _ ?_; clear hK) | (rename_i hK _ _ _ _ _ _ _ _ _ _ _ _ _ _ _ _ _ _ _ _ _; refine hK _ _ ?_; clear hK) | (rename_i hK _ _ _ _ _ _ _ _ _ _ _ _ _ _ _ _ _ _ _ _ _ _; refine hK _ _ ?_; clear hK) | (rename_i hK _ _ _ _ _ _ _ _ _ _ _ _ _ _ _ _ _ _ _ _ _ _ _; refine hK _ _ ?_; clear hK) | (rename_i hK _ _ _ _ _ _ _ _ _ _ _ _ _ _ _ _ _ _ _ _ _ _ _ _; refine hK _ _ ?_; clear hK) | (rename_i hK _ _ _ _ _ _ _ _ _ _ _ _ _ _ _ _ _ _ _ _ _ _ _ _ _; refine hK _ _ ?_; clear hK) | (rename_i hK _ _ _ _ _ _ _ _ _ _ _ _ _ _ _ _ _ _ _ _ _ _ _ _ _ _; refine hK _ _ ?_; clear hK) | (rename_i hK _ _ _ _ _ _ _ _ _ _ _ _ _ _ _ _ _ _ _ _ _ _ _ _ _ _ _; refine hK _ _ ?_; clear hK) | (rename_i hK _ _ _ _ _ _ _ _ _ _ _ _ _ _ _ _ _ _ _ _ _ _ _ _ _ _ _ _; refine hK _ _ ?_; clear hK) | (rename_i hK _ _ _ _ _ _ _ _ _ _ _ _ _ _ _ _ _ _ _ _ _ _ _ _ _ _ _ _ _; refine hK _ _ ?_; clear hK) | (rename_i hK _ _ _ _ _ _ _ _ _ _ _ _ _ _ _ _ _ _ _ _ _ _ _ _ _ _ _ _ _ _; refine hK _ _ ?_; clear hK) | (rename_i hK _ _ _ _ _ _ _ _ _ _ _ _ _ _ _ _ _ _ _ _ _ _ _ _ _ _ _ _ _ _ _; refine hK _ _ ?_; clear hK) | (rename_i hK _ _ _ _ _ _ _ _ _ _ _ _ _ _ _ _ _ _ _ _ _ _ _ _ _ _ _ _ _ _ _ _; refine hK _ _ ?_; clear hK) | (rename_i hK _ _ _ _ _ _ _ _ _ _ _ _ _ _ _ _ _ _ _ _ _ _ _ _ _ _ _ _ _ _ _ _ _; refine hK _ _ ?_; clear hK) | (rename_i hK _ _ _ _ _ _ _ _ _ _ _ _ _ _ _ _ _ _ _ _ _ _ _ _ _ _ _ _ _ _ _ _ _ _; refine hK _ _ ?_; clear hK) | (rename_i hK _ _ _ _ _ _ _ _ _ _ _ _ _ _ _ _ _ _ _ _ _ _ _ _ _ _ _ _ _ _ _ _ _ _ _; refine hK _ _ ?_; clear hK) | (rename_i hK _ _ _ _ _ _ _ _ _ _ _ _ _ _ _ _ _ _ _ _ _ _ _ _ _ _ _ _ _ _ _ _ _ _ _ _; refine hK _ _ ?_; clear hK) | (rename_i hK _ _ _ _ _ _ _ _ _ _ _ _ _ _ _ _ _ _ _ _ _ _ _ _ _ _ _ _ _ _ _ _ _ _ _ _ _; refine hK _ _ ?_; clear hK) | (rename_i hK _ _ _ _ _ _ _ _ _ _ _ _ _ _ _ _ _ _ _ _ _ _ _ _ _ _ _ _ _ _ _ _ _ _ _ _ _ _; refine hK _ _ ?_; clear hK) | (rename_i hK _ _ _ _ _ _ _ _ _ _ _ _ _ _ _ _ _ _ _ _ _ _ _ _ _ _ _ _ _ _ _ _ _ _ _ _ _ _ _; refine hK _ _ ?_; clear hK)
              go_wp2_with fail
              go_meet
              have bx7 := (k7 wr.heap.size _ _ _ hbx (by decide) (by decide) (by decide) (by decide)).trans hbx
              refine ⟨by simp, _, _, _, Lib.hid ⟨HN.out.1, ?_, ?_⟩, h7, bx7⟩
              · have := HN.out.2.1; omega
              · have := HN.out.2.2; have := logged_len true S ⟨zc, u64s base zk, false⟩; omega
            · by_cases o2 : zo = 2
              · subst o2
                go_wp2_with fail
                refine (sp_open h5 hn zc zk).mono ?_
                rintro e w6 ⟨rfl, h6, k6⟩
                have bx6 := (k6 wr.heap.size _ _ _ hbx (by decide) (by decide) (by decide) (by decide)).trans hbx
                have D1 := cl_of bx6 1
                have D2 := cl_of bx6 2
                go_wp2_with fail
                refine (sp_rturn h6 hn (by omega) zc zk).mono ?_
                rintro e w7 ⟨rfl, h7, k7⟩
                have bx7 := (k7 wr.heap.size _ _ _ bx6 (by decide) (by decide) (by decide) (by decide)).trans bx6
                go_wp2_with fail
                go_meet
                rw [HN.out.1] at h7
                refine ⟨rfl, _, _, _, Lib.hid ⟨same_put HN.out.1 _ _, ?_, ?_⟩, h7, bx7⟩
                · have := HN.out.2.1; have := lset_length (u64s base zk) (wrap64 (nget (u64s base zk) L + 1)) L; omega
                · have := HN.out.2.2; have := logged_len true S ⟨zc, u64s base zk, true⟩; omega
              · by_cases o3 : zo = 3
                · subst o3
                  go_wp2_with fail
                  refine (sp_close h5 hn zc zk).mono ?_
                  rintro e w6 ⟨rfl, h6, k6⟩
                  have bx6 := (k6 wr.heap.size _ _ _ hbx (by decide) (by decide) (by decide) (by decide)).trans hbx
                  have D1 := cl_of bx6 1
                  have D2 := cl_of bx6 2
                  go_wp2_with fail
                  refine (sp_rturn h6 hn (by omega) zc zk).mono ?_
                  rintro e w7 ⟨rfl, h7, k7⟩
                  have bx7 := (k7 wr.heap.size _ _ _ bx6 (by decide) (by decide) (by decide) (by decide)).trans bx6
                  go_wp2_with fail
                  go_meet
                  rw [HN.out.1] at h7
                  refine ⟨rfl, _, _, _, Lib.hid ⟨same_put HN.out.1 _ _, ?_, ?_⟩, h7, bx7⟩
                  · have := HN.out.2.1; have := lset_length (u64s base zk) (wrap64 (nget (u64s base zk) L + 1)) L; omega
                  · have := HN.out.2.2; have := logged_len true S ⟨zc, u64s base zk, true⟩; omega
                · by_cases o4 : zo = 4
                  · subst o4
                    go_wp2_with fail
                    refine (sp_write h5 hn zc zk zv).mono ?_
                    rintro e w6 ⟨rfl, h6, k6⟩
                    have bx6 := (k6 wr.heap.size _ _ _ hbx (by decide) (by decide) (by decide) (by decide)).trans hbx
                    have D1 := cl_of bx6 1
                    have D2 := cl_of bx6 2
                    have D3 := cl_of bx6 3
                    have T0 := cl_of h6.rclk 0
                    go_wp2_with fail
                    go_region_held3 (fun W => W.cell? ⟨t, 0, none⟩ = some (.pointer (some ⟨q, 0, none⟩)) ∧ W.cell? ⟨wr.heap.size, 1, none⟩ = some (.int .i64 zc) ∧ W.cell? ⟨wr.heap.size, 2, none⟩ = some (.int .u64 zk) ∧ W.cell? ⟨wr.heap.size, 3, none⟩ = some (.int .i64 zv)) (first | exact ⟨T0, D1, D2, D3⟩ | assumption | exact ⟨cl_of (SP.rclk (by assumption)) 0, kt_cell bx6 (by assumption) 1, kt_cell bx6 (by assumption) 2, kt_cell bx6 (by assumption) 3⟩) (first | (go_at_call 23; refine (sp_rwrite (by first | exact h6 | exact h6.drew) hn (by omega) zc zk zv).mono ?_; rintro e w7 ⟨rfl, h7, k7⟩))
                    first | (rename_i hK; refine hK _ _ ?_; clear hK) | (rename_i hK _; refine hK _ _ ?_; clear hK) | (rename_i hK _ _; refine hK _ _ ?_; clear hK) | (rename_i hK _ _ _; refine hK _ _ ?_; clear hK) | (rename_i hK _ _ _ _; refine hK _ _ ?_; clear hK) | (rename_i hK _ _ _ _ _; refine hK _ _ ?_; clear hK) | (rename_i hK _ _ _ _ _ _; refine hK _ _ ?_; clear hK) | (rename_i hK _ _ _ _ _ _ _; refine hK _ _ ?_; clear hK) | (rename_i hK _ _ _ _ _ _ _ _; refine hK _ _ ?_; clear hK) | (rename_i hK _ _ _ _ _ _ _ _ _; refine hK _ _ ?_; clear hK) | (rename_i hK _ _ _ _ _ _ _ _ _ _; refine hK _ _ ?_; clear hK) | (rename_i hK _ _ _ _ _ _ _ _ _ _ _; refine hK _ _ ?_; clear hK) | (rename_i hK _ _ _ _ _ _ _ _ _ _ _ _; refine hK _ _ ?_; clear hK) | (rename_i hK _ _ _ _ _ _ _ _ _ _ _ _ _; refine hK _ _ ?_; clear hK) | (rename_i hK _ _ _ _ _ _ _ _ _ _ _ _ _ _; refine hK _ _ ?_; clear hK) | (rename_i hK _ _ _ _ _ _ _ _ _ _ _ _ _ _ _; refine hK _ _ ?_; clear hK) | (rename_i hK _ _ _ _ _ _ _ _ _ _ _ _ _ _ _ _; refine hK _ _ ?_; clear hK) | (rename_i hK _ _ _ _ _ _ _ _ _ _ _ _ _ _ _ _ _; refine hK _ _ ?_; clear hK) | (rename_i hK _ _ _ _ _ _ _ _ _ _ _ _ _ _ _ _ _ _; refine hK _ _ ?_; clear hK) | (rename_i hK _ _ _ _ _ _ _ _ _ _ _ _ _ _ _ _ _ _ _; refine hK _ _ ?_; clear hK) | (rename_i hK _ _ _ _ _ _ _ _ _ _ _ _ _ _ _ _ _ _ _ _; refine hK _ _ ?_; clear hK) | (rename_i hK _ _ _ _ _ _ _ _ _ _ _ _ _ _ _ _ _ _ _ _ _; refine hK _ _ ?_; clear hK) | (rename_i hK _ _ _ _ _ _ _ _ _ _ _ _ _ _ _ _ _ _ _ _ _ _; refine hK _ _ ?_; clear hK) | (rename_i hK _ _ _ _ _ _ _ _ _ _ _ _ _ _ _ _ _ _ _ _ _ _ _; refine hK _ _ ?_; clear hK) | (rename_i hK _ _ _ _ _ _ _ _ _ _ _ _ _ _ _ _ _ _ _ _ _ _ _ _; refine hK _ _ ?_; clear hK) | (rename_i hK _ _ _ _ _ _ _ _ _ _ _ _ _ _ _ _ _ _ _ _ _ _ _ _ _; refine hK _ _ ?_; clear hK) | (rename_i hK _ _ _ _ _ _ _ _ _ _ _ _ _ _ _ _ _ _ _ _ _ _ _ _ _ _; refine hK _ _ ?_; clear hK) | (rename_i hK _ _ _ _ _ _ _ _ _ _ _ _ _ _ _ _ _ _ _ _ _ _ _ _ _ _ _; refine hK _ _ ?_; clear hK) | (rename_i hK _ _ _ _ _ _ _ _ _ _ _ _ _ _ _ _ _ _ _ _ _ _ _ _ _ _ _ _; refine hK _ _ ?_; clear hK) | (rename_i hK _ _ _ _ _ _ _ _ _ _ _ _ _ _ _ _ _ _ _ _ _ _ _ _ _ _ _ _ _; refine hK _ _ ?_; clear hK) | (rename_i hK _ _ _ _ _ _ _ _ _ _ _ _ _ _ _ _ _ _ _ _ _ _ _ _ _ _ _ _ _ _; refine hK _ _ ?_; clear hK) | (rename_i hK _ _ _ _ _ _ _ _ _ _ _ _ _ _ _ _ _ _ _ _ _ _ _ _ _ _ _ _ _ _ _; refine hK _ _ ?_; clear hK) | (rename_i hK _ _ _ _ _ _ _ _ _ _ _ _ _ _ _ _ _ _ _ _ _ _ _ _ _ _ _ _ _ _ _ _; refine hK _ _ ?_; clear hK) | (rename_i hK _ _ _ _ _ _ _ _ _ _ _ _ _ _ _ _ _ _ _ _ _ _ _ _ _ _ _ _ _ _ _ _ _; refine hK _ _ ?_; clear hK) | (rename_i hK _ _ _ _ _ _ _ _ _ _ _ _ _ _ _ _ _ _ _ _ _ _ _ _ _ _ _ _ _ _ _ _ _ _; refine hK _ _ ?_; clear hK) | (rename_i hK _ _ _ _ _ _ _ _ _ _ _ _ _ _ _ _ _ _ _ _ _ _ _ _ _ _ _ _ _ _ _ _ _ _ _; refine hK _ _ ?_; clear hK) | (rename_i hK _ _ _ _ _ _ _ _ _ _ _ _ _ _ _ _ _ _ _ _ _ _ _ _ _ _ _ _ _ _ _ _ _ _ _ _; refine hK _ _ ?_; clear hK) | (rename_i hK _ _ _ _ _ _ _ _ _ _ _ _ _ _ _ _ _ _ _ _ _ _ _ _ _ _ _ _ _ _ _ _ _ _ _ _ _; refine hK _ _ ?_; clear hK) | (rename_i hK _ _ _ _ _ _ _ _ _ _ _ _ _ _ _ _ _ _ _ _ _ _ _ _ _ _ _ _ _ _ _ _ _ _ _ _ _ _; refine hK _ _ ?_; clear hK) | (rename_i hK _ _ _ _ _ _ _ _ _ _ _ _ _ _ _ _ _ _ _ _ _ _ _ _ _ _ _ _ _ _ _ _ _ _ _ _ _ _ _; refine hK _ _ ?_; clear hK)
                    have bx7 := (k7 wr.heap.size _ _ _ bx6 (by decide) (by decide) (by decide) (by decide)).trans bx6
                    go_wp2_with fail
                    go_meet
                    refine ⟨rfl, _, _, _, Lib.hid ⟨same_put HN.out.1 _ _, ?_, ?_⟩, h7, bx7⟩
                    · have := HN.out.2.1; have := lset_length zk zv L; omega
                    · have := HN.out.2.2; have := logged_len true S ⟨zc, zk, true⟩; omega
                  · go_wp2_with fail
                    go_meet
                    exact ⟨rfl, N, L, S, Lib.hid ⟨HN.out.1, by have := HN.out.2.1; omega, by have := HN.out.2.2; omega⟩, h5, hbx⟩
        case rest =>
          obtain ⟨rfl, N', L', S', HN', h6, box⟩ := hcut
          have hs' := HN'.out.1
          have hl' : L'.length ≤ 10000 := by have := HN'.out.2.1; omega
          have hn' : Few S' := ⟨by have := HN'.out.2.2; omega⟩
          obtain ⟨sv, vL, vS, hc, hr, -, -⟩ := h6.duo.ex
          have hq6 := h6.clk
          have hr6 := h6.rclk
          have t0 := cl_of hr6 0
          have q1 := cl_of hr.obj 1
          have b2 := cl_of box 2
          have fk : ∀ W, Fr (fun _ => False) wc W → W.cell? ⟨t, 0, none⟩ = some (.pointer (some ⟨q, 0, none⟩)) ∧ W.cell? ⟨q, 1, none⟩ = some vS ∧ W.cell? ⟨wr.heap.size, 2, none⟩ = some (.int .u64 zk) := fun W hF => ⟨(hF.cell (p := ⟨t, 0, none⟩) hr6.lt id).trans t0, (hF.cell (p := ⟨q, 1, none⟩) (hr.lt (.inl rfl)) id).trans q1, (hF.cell (p := ⟨wr.heap.size, 2, none⟩) (Array.getElem?_eq_some_iff.1 box).1 id).trans b2⟩
          have F0 : Fr (fun _ => False) wc wc := Fr.refl _ _
          have F1 : Fr (fun _ => False) wc wc.drew := F0.drew
          go_wp2_with fail
          go_region_held3 (fun W => W.cell? ⟨t, 0, none⟩ = some (.pointer (some ⟨q, 0, none⟩)) ∧ W.cell? ⟨q, 1, none⟩ = some vS ∧ W.cell? ⟨wr.heap.size, 2, none⟩ = some (.int .u64 zk)) (first | assumption | exact fk _ (by assumption)) (first | (go_at_call 38; refine (f_busy hq6 hc (by assumption) _).mono ?_; rintro e w' ⟨rfl, hF⟩) | (go_at_call 42; refine (f_rbusy hr6 hr hl' hs' (by assumption) _).mono ?_; rintro e w' ⟨rfl, hF⟩) | (go_at_call 29; refine (f_seen hc hn' (by assumption)).mono ?_; rintro e w' ⟨ao', cap', rfl, hrow, hF⟩) | (go_at_call 28; refine (f_same hr hn' (by assumption) (by assumption)).mono ?_; rintro e w' ⟨rfl, hF⟩))
          first | (rename_i hK; refine hK _ _ ?_; clear hK) | (rename_i hK _; refine hK _ _ ?_; clear hK) | (rename_i hK _ _; refine hK _ _ ?_; clear hK) | (rename_i hK _ _ _; refine hK _ _ ?_; clear hK) | (rename_i hK _ _ _ _; refine hK _ _ ?_; clear hK) | (rename_i hK _ _ _ _ _; refine hK _ _ ?_; clear hK) | (rename_i hK _ _ _ _ _ _; refine hK _ _ ?_; clear hK) | (rename_i hK _ _ _ _ _ _ _; refine hK _ _ ?_; clear hK) | (rename_i hK _ _ _ _ _ _ _ _; refine hK _ _ ?_; clear hK) | (rename_i hK _ _ _ _ _ _ _ _ _; refine hK _ _ ?_; clear hK) | (rename_i hK _ _ _ _ _ _ _ _ _ _; refine hK _ _ ?_; clear hK) | (rename_i hK _ _ _ _ _ _ _ _ _ _ _; refine hK _ _ ?_; clear hK) | (rename_i hK _ _ _ _ _ _ _ _ _ _ _ _; refine hK _ _ ?_; clear hK) | (rename_i hK _ _ _ _ _ _ _ _ _ _ _ _ _; refine hK _ _ ?_; clear hK) | (rename_i hK _ _ _ _ _ _ _ _ _ _ _ _ _ _; refine hK _ _ ?_; clear hK) | (rename_i hK _ _ _ _ _ _ _ _ _ _ _ _ _ _ _; refine hK _ _ ?_; clear hK) | (rename_i hK _ _ _ _ _ _ _ _ _ _ _ _ _ _ _ _; refine hK _ _ ?_; clear hK) | (rename_i hK _ _ _ _ _ _ _ _ _ _ _ _ _ _ _ _ _; refine hK _ _ ?_; clear hK) | (rename_i hK _ _ _ _ _ _ _ _ _ _ _ _ _ _ _ _ _ _; refine hK _ _ ?_; clear hK) | (rename_i hK _ _ _ _ _ _ _ _ _ _ _ _ _ _ _ _ _ _ _; refine hK _ _ ?_; clear hK) | (rename_i hK _ _ _ _ _ _ _ _ _ _ _ _ _ _ _ _ _ _ _ _; refine hK _ _ ?_; clear hK) | (rename_i hK _ _ _ _ _ _ _ _ _ _ _ _ _ _ _ _ _ _ _ _ _; refine hK _ _ ?_; clear hK) | (rename_i hK _ _ _ _ _ _ _ _ _ _ _ _ _ _ _ _ _ _ _ _ _ _; refine hK _ _ ?_; clear hK) | (rename_i hK _ _ _ _ _ _ _ _ _ _ _ _ _ _ _ _ _ _ _ _ _ _ _; refine hK _ _ ?_; clear hK) | (rename_i hK _ _ _ _ _ _ _ _ _ _ _ _ _ _ _ _ _ _ _ _ _ _ _ _; refine hK _ _ ?_; clear hK) | (rename_i hK _ _ _ _ _ _ _ _ _ _ _ _ _ _ _ _ _ _ _ _ _ _ _ _ _; refine hK _ _ ?_; clear hK) | (rename_i hK _ _ _ _ _ _ _ _ _ _ _ _ _ _ _ _ _ _ _ _ _ _ _ _ _ _; refine hK _ _ ?_; clear hK) | (rename_i hK _ _ _ _ _ _ _ _ _ _ _ _ _ _ _ _ _ _ _ _ _ _ _ _ _ _ _; refine hK _ _ ?_; clear hK) | (rename_i hK _ _ _ _ _ _ _ _ _ _ _ _ _ _ _ _ _ _ _ _ _ _ _ _ _ _ _ _; refine hK _ _ ?_; clear hK) | (rename_i hK _ _ _ _ _ _ _ _ _ _ _ _ _ _ _ _ _ _ _ _ _ _ _ _ _ _ _ _ _; refine hK _ _ ?_; clear hK) | (rename_i hK _ _ _ _ _ _ _ _ _ _ _ _ _ _ _ _ _ _ _ _ _ _ _ _ _ _ _ _ _ _; refine hK _ _ ?_; clear hK) | (rename_i hK _ _ _ _ _ _ _ _ _ _ _ _ _ _ _ _ _ _ _ _ _ _ _ _ _ _ _ _ _ _ _; refine hK _ _ ?_; clear hK) | (rename_i hK _ _ _ _ _ _ _ _ _ _ _ _ _ _ _ _ _ _ _ _ _ _ _ _ _ _ _ _ _ _ _ _; refine hK _ _ ?_; clear hK) | (rename_i hK _ _ _ _ _ _ _ _ _ _ _ _ _ _ _ _ _ _ _ _ _ _ _ _ _ _ _ _ _ _ _ _ _; refine hK _ _ ?_; clear hK) | (rename_i hK _ _ _ _ _ _ _ _ _ _ _ _ _ _ _ _ _ _ _ _ _ _ _ _ _ _ _ _ _ _ _ _ _ _; refine hK _ _ ?_; clear hK) | (rename_i hK _ _ _ _ _ _ _ _ _ _ _ _ _ _ _ _ _ _ _ _ _ _ _ _ _ _ _ _ _ _ _ _ _ _ _; refine hK _ _ ?_; clear hK) | (rename_i hK _ _ _ _ _ _ _ _ _ _ _ _ _ _ _ _ _ _ _ _ _ _ _ _ _ _ _ _ _ _ _ _ _ _ _ _; refine hK _ _ ?_; clear hK) | (rename_i hK _ _ _ _ _ _ _ _ _ _ _ _ _ _ _ _ _ _ _ _ _ _ _ _ _ _ _ _ _ _ _ _ _ _ _ _ _; refine hK _ _ ?_; clear hK) | (rename_i hK _ _ _ _ _ _ _ _ _ _ _ _ _ _ _ _ _ _ _ _ _ _ _ _ _ _ _ _ _ _ _ _ _ _ _ _ _ _; refine hK _ _ ?_; clear hK) | (rename_i hK _ _ _ _ _ _ _ _ _ _ _ _ _ _ _ _ _ _ _ _ _ _ _ _ _ _ _ _ _ _ _ _ _ _ _ _ _ _ _; refine hK _ _ ?_; clear hK)
          rename_i hF _
          go_wp2_with fail
          go_roundw
          case rel => exact ⟨k + 1, N', L', S', by omega, by go_num, HN', h6.fr hF⟩
          case measure => simp [intOf]; omega
      · obtain rfl : k = ls.length := by omega
        go_wp2_with fail
        refine (alive15 _).mono ?_
        rintro e w6 ⟨rfl, hB⟩
        go_wp2_with fail
        go_ret
        exact ⟨rfl, hO.duo.below.trans (hB.mono hO.duo.below.size)⟩
end Go.Proofs.Ythmabnigdnbdkaa
