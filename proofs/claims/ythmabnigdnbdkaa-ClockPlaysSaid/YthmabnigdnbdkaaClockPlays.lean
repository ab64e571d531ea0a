/- ClockPlays: which stamps are given, and which cells are touched how, whatever is asked. -/
import Derived.Test.YthmabnigdnbdkaaRefClock
import Derived.Test.YthmabnigdnbdkaaClockOff
import Derived.Test.YthmabnigdnbdkaaSteps
namespace Go.Proofs.Ythmabnigdnbdkaa
open Go.RowKit
set_option maxRecDepth 100000

structure CP (w0 : World) (p m s q t : Nat) (base : Int) (on : Bool) (N : List (Int × Int)) (S : List Touch) (L : List (Int × Int)) (S2 : List Touch) (W : World) : Prop where
  duo : Duo w0 p m q on N S true L S2 W
  clk : ClkAt W s p base
  rclk : RClk W t q base
theorem CP.fr {w0 w w' : World} {p m s q t : Nat} {base : Int} {on : Bool} {N L : List (Int × Int)} {S S2 : List Touch} (h : CP w0 p m s q t base on N S L S2 w) (hf : Fr (fun _ => False) w w') : CP w0 p m s q t base on N S L S2 w' := ⟨h.duo.fr hf, h.clk.kt (Kt2.fr hf), h.rclk.kt (Kt2.fr hf)⟩
theorem CP.drew {w0 w : World} {p m s q t : Nat} {base : Int} {on : Bool} {N L : List (Int × Int)} {S S2 : List Touch} (h : CP w0 p m s q t base on N S L S2 w) : CP w0 p m s q t base on N S L S2 w.drew := h.fr (Fr.refl _ _).drew

theorem cp_write {w0 w : World} {p m s q t : Nat} {base : Int} {on : Bool} {N L : List (Int × Int)} {S S2 : List Touch} (h : CP w0 p m s q t base on N S L S2 w) (hn : Few S) (core cell v : Int) :
    Calls Try.prog 22 #[.pointer (some ⟨p, 0, none⟩), .int .i64 core, .int .u64 cell, .int .i64 v] w fun e w' => e = .returned (.tuple #[]) ∧ CP w0 p m s q t base on (nput cell v N) (logged on S ⟨core, cell, true⟩) L S2 w' ∧ Kt2 w w' := by
  obtain ⟨sv, hc, hstep⟩ := h.duo.c
  refine (write_any hc hn core cell v).mono ?_
  rintro e w' ⟨rfl, hst⟩
  obtain ⟨hd, hk⟩ := hstep _ _ _ _ hst
  exact ⟨rfl, ⟨hd, h.clk.kt hk, h.rclk.kt hk⟩, hk⟩
theorem cp_rwrite {w0 w : World} {p m s q t : Nat} {base : Int} {on : Bool} {N L : List (Int × Int)} {S S2 : List Touch} (h : CP w0 p m s q t base on N S L S2 w) (hn : Few S2) (hl : L.length ≤ 10000) (core cell v : Int) :
    Calls Try.prog 23 #[.pointer (some ⟨q, 0, none⟩), .int .i64 core, .int .u64 cell, .int .i64 v] w fun e w' => e = .returned (.tuple #[]) ∧ CP w0 p m s q t base on N S (lset cell v L) (logged true S2 ⟨core, cell, true⟩) w' ∧ Kt2 w w' := by
  obtain ⟨vL, vS, hr, hstep⟩ := h.duo.r
  refine (ref_write hr hn hl core cell v).mono ?_
  rintro e w' ⟨rfl, hst⟩
  obtain ⟨hd, hk⟩ := hstep _ _ _ _ hst
  exact ⟨rfl, ⟨hd, h.clk.kt hk, h.rclk.kt hk⟩, hk⟩
theorem cp_stamp {w0 w : World} {p m s q t : Nat} {base : Int} {on : Bool} {N L : List (Int × Int)} {S S2 : List Touch} (h : CP w0 p m s q t base on N S L S2 w) (core least d er : Int) (hn : Few S) (hn2 : ∀ x, Few (logged on S x)) (hv : cval base N core least = (d, er)) :
    Calls Try.prog 45 #[.pointer (some ⟨s, 0, none⟩), .int .i64 core, .int .u64 least] w fun e w' => e = .returned (.tuple #[.int .u64 d, .int .i64 er]) ∧ CP w0 p m s q t base on (if er = 0 then nput (u64s base core) d N else N) (clogs on S base core er) L S2 w' ∧ Kt2 w w' := by
  obtain ⟨sv, hc, hstep⟩ := h.duo.c
  refine (clk_stamp h.clk hc core least d er hn hn2 hv).mono ?_
  rintro e w' ⟨rfl, hst⟩
  obtain ⟨hd, hk⟩ := hstep _ _ _ _ hst
  exact ⟨rfl, ⟨hd, h.clk.kt hk, h.rclk.kt hk⟩, hk⟩
theorem cp_rstamp {w0 w : World} {p m s q t : Nat} {base : Int} {on : Bool} {N L : List (Int × Int)} {S S2 : List Touch} (h : CP w0 p m s q t base on N S L S2 w) (core least d er : Int) (hn : Few S2) (hn2 : ∀ x, Few (logged true S2 x)) (hl : L.length ≤ 10000) (hv : cval base L core least = (d, er)) :
    Calls Try.prog 49 #[.pointer (some ⟨t, 0, none⟩), .int .i64 core, .int .u64 least] w fun e w' => e = .returned (.tuple #[.int .u64 d, .int .i64 er]) ∧ CP w0 p m s q t base on N S (if er = 0 then lset (u64s base core) d L else L) (clogs true S2 base core er) w' ∧ Kt2 w w' := by
  obtain ⟨vL, vS, hr, hstep⟩ := h.duo.r
  refine (rclk_stamp h.rclk hr core least d er hn hn2 hl hv).mono ?_
  rintro e w' ⟨rfl, hst⟩
  obtain ⟨hd, hk⟩ := hstep _ _ _ _ hst
  exact ⟨rfl, ⟨hd, h.clk.kt hk, h.rclk.kt hk⟩, hk⟩

theorem bt {a b c : World} (h : Below a.heap.size a b) (k : Below b.heap.size b c) : Below a.heap.size a c := h.trans (k.mono h.size)
section
variable {w W : World} {p m s q t : Nat} {base : Int} {sv vL vS : Value} {on : Bool} {N L : List (Int × Int)} {S : List Touch}
theorem f_last (hq : ClkAt w s p base) (hc : CellsAt w p m sv on N S) (hF : Fr (fun _ => False) w W) (core : Int) :
    Calls Try.prog 47 #[.pointer (some ⟨s, 0, none⟩), .int .i64 core] W fun e w' => e = .returned (.int .u64 (clast base N core)) ∧ Fr (fun _ => False) w w' :=
  (clk_last_any (hq.fr hF id) (hc.fr hF fun _ _ => id) core).mono fun _ _ ⟨he, hf⟩ => ⟨he, hF.trans hf⟩
theorem f_rlast (hq : RClk w t q base) (hr : RefAt w q vL vS true L S) (hl : L.length ≤ 10000) (hs : ∀ k, nget k N = nget k L) (hF : Fr (fun _ => False) w W) (core : Int) :
    Calls Try.prog 50 #[.pointer (some ⟨t, 0, none⟩), .int .i64 core] W fun e w' => e = .returned (.int .u64 (clast base N core)) ∧ Fr (fun _ => False) w w' := by
  rw [clast_same hs]
  exact (rclk_last_any (hq.kt (Kt2.fr hF)) (hr.fr hF fun _ _ => id) hl core).mono fun _ _ ⟨he, hf⟩ => ⟨he, hF.trans hf⟩
theorem f_most (hq : ClkAt w s p base) (hc : CellsAt w p m sv on N S) (hF : Fr (fun _ => False) w W) :
    Calls Try.prog 46 #[.pointer (some ⟨s, 0, none⟩)] W fun e w' => e = .returned (.int .u64 (cmost base N 8)) ∧ Fr (fun _ => False) w w' :=
  (clk_most (hq.fr hF id) (hc.fr hF fun _ _ => id)).mono fun _ _ ⟨he, hf⟩ => ⟨he, hF.trans hf⟩
theorem f_rmost (hq : RClk w t q base) (hr : RefAt w q vL vS true L S) (hl : L.length ≤ 10000) (hs : ∀ k, nget k N = nget k L) (hF : Fr (fun _ => False) w W) :
    Calls Try.prog 51 #[.pointer (some ⟨t, 0, none⟩)] W fun e w' => e = .returned (.int .u64 (cmost base N 8)) ∧ Fr (fun _ => False) w w' := by
  rw [cmost_same hs]
  exact (rclk_most (hq.kt (Kt2.fr hF)) (hr.fr hF fun _ _ => id) hl).mono fun _ _ ⟨he, hf⟩ => ⟨he, hF.trans hf⟩
theorem f_seen (hc : CellsAt w p m sv on N S) (hn : Few S) (hF : Fr (fun _ => False) w W) :
    Calls Try.prog 29 #[.pointer (some ⟨p, 0, none⟩)] W fun e w' => ∃ ao cap, e = .returned (.slice ao S.length cap) ∧ w'.ownsRow 0 91 3 (.slice ao S.length cap) S.length (touches S) ∧ Fr (fun _ => False) w w' := by
  refine (cells_seen (hc.fr hF fun _ _ => id) hn).mono ?_
  rintro e w' ⟨v', rfl, hrow, hf⟩
  obtain ⟨ao, cap, hv, _⟩ := own_form (ownsRowB_zero hrow)
  subst hv
  exact ⟨ao, cap, rfl, ownsRowB_zero hrow, hF.trans hf⟩
theorem f_same {va : Value} (hr : RefAt w q vL vS true L S) (hn : Few S) (hF : Fr (fun _ => False) w W) (ha : W.ownsRow 0 91 3 va S.length (touches S)) :
    Calls Try.prog 28 #[va, vS] W fun e w' => e = .returned (.bool true) ∧ Fr (fun _ => False) w w' :=
  (ref_same ha (hr.fr hF fun _ _ => id).rowS hn).mono fun _ _ ⟨he, hf⟩ => ⟨he, hF.trans hf⟩
end
theorem below_fr {w w' : World} (hf : Fr (fun _ => False) w w') : Below w.heap.size w w' := Fr.step (Below.refl _ w) hf (Nat.le_refl _) fun _ h => h.elim
theorem cp_start {w w3 w4 : World} {p m : Nat} {base : Int} (hB : Below w.heap.size w w3) (hc : CellsAt w3 p m (.slice none 0 0) false [] []) (hp : w.heap.size ≤ p) (hm : w.heap.size ≤ m)
    (hst : CStep (w3.alloc (.cells #[.pointer (some ⟨p, 0, none⟩), .int .u64 base] 116)) p m (.slice none 0 0) true [] [] w4) :
    CP w p m w3.heap.size w4.heap.size (w4.heap.size + 1) base true [] [] [] [] ((w4.alloc (.cells #[.slice none 0 0, .slice none 0 0, .bool true] 44)).alloc (.cells #[.pointer (some ⟨w4.heap.size, 0, none⟩), .int .u64 base] 82)) := by
  have hq : ClkAt (w3.alloc (.cells #[.pointer (some ⟨p, 0, none⟩), .int .u64 base] 116)) w3.heap.size p base := hp_new _ _ rfl
  obtain ⟨sv', a, b, c⟩ := hst
  have hc1 := hc.alloc (.cells #[.pointer (some ⟨p, 0, none⟩), .int .u64 base] 116)
  have hs3 := hB.size
  have hB1 : Below w.heap.size w (w3.alloc (.cells #[.pointer (some ⟨p, 0, none⟩), .int .u64 base] 116)) := hB.alloc hs3 _
  have hf0 : ∀ k, cfoot p m (.slice none 0 0) k → w.heap.size ≤ k := by
    rintro k (rfl | rfl | hg)
    · exact hp
    · exact hm
    · cases hg
  have hf1 : ∀ k, cfoot p m sv' k → w.heap.size ≤ k := by
    rintro k (rfl | rfl | hg)
    · exact hp
    · exact hm
    · rcases c with c | ⟨g, hg', hl⟩
      · rw [c] at hg; cases hg
      · rw [hg] at hg'; cases hg'
        have := hB1.size
        omega
  have hB4 : Below w.heap.size w w4 := Fr.step hB1 b hB1.size hf0
  have hq4 : ClkAt w4 w3.heap.size p base := hq.fr b (hq.apart hc1)
  have hd := Duo.start (q := w4.heap.size) (on2 := true) a hf1 hB4 rfl
  refine ⟨hd.alloc _, ?_, hp_new _ _ (by simp)⟩
  have h4 := hq4.lt
  exact (hp_old _ _ (by simp; omega)).trans ((hp_old _ _ h4).trans hq4)
theorem same_put {N L : List (Int × Int)} (h : ∀ j, nget j N = nget j L) (c v : Int) : ∀ j, nget j (nput c v N) = nget j (lset c v L) := fun j => by rw [nget_put, nget_lset, h]
theorem kt_cell {w W : World} {b : Nat} {cs : Array Value} (h : w.heap[b]? = some (.cells cs 76 (0, 0))) (k : Kt2 w W) (i : Nat) : W.cell? ⟨b, i, none⟩ = cs[i]? :=
  cl_of ((k b _ _ _ h (by decide) (by decide) (by decide) (by decide)).trans h) i

set_option maxHeartbeats 4000000 in
theorem plays_walk (base : Int) (v : Value) (ls : List Stp) (core stamp : Int) (_hwb : (Lit.int .u64 base).wf = true) {w : World} (hs : SlS w v ls) (_hwc : (Lit.int .i64 core).wf = true) (hws : (Lit.int .u64 stamp).wf = true) :
    Calls Try.prog 10 #[.int .u64 base, v, .int .i64 core, .int .u64 stamp] w fun e w' => e = .returned (.bool true) ∧ Below w.heap.size w w' := by
  obtain ⟨⟨ao, cap, rfl, hcs⟩, hzw⟩ := hs
  have hst0 : 0 ≤ stamp := by
    simp [Lit.wf, IntKind.min, IntKind.max, IntKind.signed, IntKind.bits] at hws
    omega
  clear hws
  by_cases hlong : ls.length ≤ 150
  rotate_left
  · go_enter Try.func10, Try.ntmps10
    go_wp2_with fail
    refine (alive16 _).mono ?_
    rintro e w1 ⟨rfl, hB⟩
    go_wp2_with fail
    go_ret
    exact ⟨rfl, hB⟩
  · go_enter Try.func10, Try.ntmps10
    go_wp2_with fail
    refine (clk_stamp_nil _ _ _).mono ?_
    rintro e w1 ⟨rfl, rfl⟩
    go_wp2_with fail
    refine (clk_last_nil _ _).mono ?_
    rintro e w1 ⟨rfl, f1⟩
    go_wp2_with fail
    refine (clk_most_nil _).mono ?_
    rintro e w2 ⟨rfl, f2⟩
    go_wp2_with fail
    refine (clk_core _ stamp hst0).mono ?_
    rintro e w3 ⟨rfl, rfl⟩
    go_wp2_with fail
    refine (cells_new _).mono ?_
    rintro e w3 ⟨p, m, rfl, hc, hb, hp, hm⟩
    go_wp2_with fail
    refine (clk_new _ p base).mono ?_
    rintro e w4 ⟨rfl, hq, rfl⟩
    go_wp2_with fail
    refine (cells_note (hc.alloc _) true).mono ?_
    rintro e w4 ⟨rfl, hst⟩
    go_wp2_with fail
    have hB3 : Below w.heap.size w w3 := ((below_fr f1).trans ((below_fr f2).mono f1.size)).trans (hb.mono (by have := f1.size; have := f2.size; omega))
    have hP := cp_start hB3 hc (by have := f1.size; have := f2.size; omega) (by have := f1.size; have := f2.size; omega) hst
    clear hst hq hc hb hp hm hB3 f1 f2
    generalize w3.heap.size = s at hP
    have hq4 : w4.heap.size + 1 = (w4.alloc (.cells #[.slice none 0 0, .slice none 0 0, .bool true] 44)).heap.size := by simp
    go_loopw [15] (fun v15 wr => ∃ k : Nat, ∃ N L : List (Int × Int), ∃ S : List Touch, k ≤ ls.length ∧ v15 = .int .i64 k ∧ Hid ((∀ j, nget j N = nget j L) ∧ L.length ≤ k ∧ S.length ≤ 2 * k) ∧ CP w p m s w4.heap.size (w4.heap.size + 1) base true N S L S wr) (fun v15 _ => ls.length - (intOf v15).toNat)
    case atStart => exact ⟨0, [], [], [], by omega, rfl, Lib.hid ⟨fun _ => rfl, by simp, by simp⟩, hP⟩
    case round =>
      obtain ⟨k, N, L, S, hk, rfl, HN, hO⟩ := hrel
      clear hP hq4
      generalize w4.heap.size + 1 = t at hO ⊢
      generalize w4.heap.size = q at hO ⊢
      by_cases hlt : k < ls.length
      · obtain ⟨b, off, rfl, hbl, hcell⟩ := hcs (by omega)
        obtain ⟨z0, z1, z2, z3⟩ := hcell k hlt
        obtain ⟨hcw, hlw, hvw⟩ := hzw _ (List.getElem_mem hlt)
        rw [List.getD_eq_getElem?_getD, List.getElem?_eq_getElem hlt, Option.getD_some] at z0 z1 z2 z3
        generalize ls[k] = z at z0 z1 z2 z3 hcw hlw hvw
        obtain ⟨zc, zl, zs, zv⟩ := z
        dsimp only at z0 z1 z2 z3 hcw hlw hvw
        have HW := Lib.hid (And.intro hcw (And.intro hlw hvw))
        clear hcw hlw hvw hcs hcell hzw
        have hB := hO.duo.below
        have y0 := (hB.cell (p := ⟨b, off + k * 4, none⟩) hbl).trans z0
        have y1 := (hB.cell (p := ⟨b, off + k * 4 + 1, none⟩) hbl).trans z1
        have y2 := (hB.cell (p := ⟨b, off + k * 4 + 2, none⟩) hbl).trans z2
        have y3 := (hB.cell (p := ⟨b, off + k * 4 + 3, none⟩) hbl).trans z3
        clear z0 z1 z2 z3
        have hlen : S.length ≤ 300 := by have := HN.out.2.2; omega
        have hll : L.length ≤ 150 := by have := HN.out.2.1; omega
        have hn : Few S := ⟨by omega⟩
        have hn2 : ∀ x, Few (logged true S x) := fun x => ⟨by have := logged_length true S x; omega⟩
        cases zs with
        | true =>
          go_wp2_with fail
          refine (cp_write (hO.fr ((Fr.refl _ _).alloc _)) hn 0 _ zv).mono ?_
          rintro e w5 ⟨rfl, h5, k5⟩
          have box5 := (k5 wr.heap.size _ _ _ (hp_new wr _ rfl) (by decide) (by decide) (by decide) (by decide)).trans (hp_new wr _ rfl)
          have B0 := cl_of box5 0
          have B3 := cl_of box5 3
          have T0 := cl_of h5.rclk 0
          go_wp2_with fail
          go_region_held3 (fun W => W.cell? ⟨t, 0, none⟩ = some (.pointer (some ⟨q, 0, none⟩)) ∧ W.cell? ⟨wr.heap.size, 0, none⟩ = some (.int .i64 zc) ∧ W.cell? ⟨wr.heap.size, 3, none⟩ = some (.int .i64 zv)) (first | exact ⟨T0, B0, B3⟩ | assumption | exact ⟨cl_of (CP.rclk (by assumption)) 0, kt_cell box5 (by assumption) 0, kt_cell box5 (by assumption) 3⟩) (first | (go_at_call 23; refine (cp_rwrite (by first | exact h5 | exact h5.drew) hn (by omega) 0 (IntKind.u64.wrap (base + IntKind.u64.wrap zc)) zv).mono ?_; rintro e w6 ⟨rfl, h6, k6⟩))
          first | (rename_i hK; refine hK _ _ ?_; clear hK) | (rename_i hK _; refine hK _ _ ?_; clear hK) | (rename_i hK _ _; refine hK _ _ ?_; clear hK)
          rename_i w6 h6 k6 _
          have box := (k6 wr.heap.size _ _ _ box5 (by decide) (by decide) (by decide) (by decide)).trans box5
          have hs' := same_put HN.out.1 (IntKind.u64.wrap (base + IntKind.u64.wrap zc)) zv
          have hl2 : (lset (IntKind.u64.wrap (base + IntKind.u64.wrap zc)) zv L).length ≤ k + 1 := by
            have := HN.out.2.1
            have := lset_length (IntKind.u64.wrap (base + IntKind.u64.wrap zc)) zv L
            omega
          have hS2 : (logged true S ⟨0, IntKind.u64.wrap (base + IntKind.u64.wrap zc), true⟩).length ≤ 2 * (k + 1) := by
            have := logged_length true S ⟨0, IntKind.u64.wrap (base + IntKind.u64.wrap zc), true⟩
            have := HN.out.2.2
            omega
          have hl' : (lset (IntKind.u64.wrap (base + IntKind.u64.wrap zc)) zv L).length ≤ 10000 := by omega
          have hn' : Few (logged true S ⟨0, IntKind.u64.wrap (base + IntKind.u64.wrap zc), true⟩) := ⟨by omega⟩
          generalize nput (IntKind.u64.wrap (base + IntKind.u64.wrap zc)) zv N = N' at h6 hs'
          generalize lset (IntKind.u64.wrap (base + IntKind.u64.wrap zc)) zv L = L' at h6 hs' hl2 hl'
          generalize logged true S ⟨0, IntKind.u64.wrap (base + IntKind.u64.wrap zc), true⟩ = S' at h6 hS2 hn'
          obtain ⟨sv, vL, vS, hc, hr, -, -⟩ := h6.duo.ex
          have hq6 := h6.clk
          have hr6 := h6.rclk
          have t0 := cl_of hr6 0
          have q1 := cl_of hr.obj 1
          have b0 := cl_of box 0
          have fk : ∀ W, Fr (fun _ => False) w6 W → W.cell? ⟨t, 0, none⟩ = some (.pointer (some ⟨q, 0, none⟩)) ∧ W.cell? ⟨q, 1, none⟩ = some vS ∧ W.cell? ⟨wr.heap.size, 0, none⟩ = some (.int .i64 zc) := fun W hF => ⟨(hF.cell (p := ⟨t, 0, none⟩) hr6.lt id).trans t0, (hF.cell (p := ⟨q, 1, none⟩) (hr.lt (.inl rfl)) id).trans q1, (hF.cell (p := ⟨wr.heap.size, 0, none⟩) (Array.getElem?_eq_some_iff.1 box).1 id).trans b0⟩
          have F0 : Fr (fun _ => False) w6 w6 := Fr.refl _ _
          have F1 : Fr (fun _ => False) w6 w6.drew := F0.drew
          go_wp2_with fail
          go_region_held3 (fun W => W.cell? ⟨t, 0, none⟩ = some (.pointer (some ⟨q, 0, none⟩)) ∧ W.cell? ⟨q, 1, none⟩ = some vS ∧ W.cell? ⟨wr.heap.size, 0, none⟩ = some (.int .i64 zc)) (first | assumption | exact fk _ (by assumption)) (first | (go_at_call 47; refine (f_last hq6 hc (by assumption) _).mono ?_; rintro e w' ⟨rfl, hF⟩) | (go_at_call 50; refine (f_rlast hr6 hr hl' hs' (by assumption) _).mono ?_; rintro e w' ⟨rfl, hF⟩) | (go_at_call 46; refine (f_most hq6 hc (by assumption)).mono ?_; rintro e w' ⟨rfl, hF⟩) | (go_at_call 51; refine (f_rmost hr6 hr hl' hs' (by assumption)).mono ?_; rintro e w' ⟨rfl, hF⟩) | (go_at_call 29; refine (f_seen hc hn' (by assumption)).mono ?_; rintro e w' ⟨ao', cap', rfl, hrow, hF⟩) | (go_at_call 28; refine (f_same hr hn' (by assumption) (by assumption)).mono ?_; rintro e w' ⟨rfl, hF⟩))
          first | (rename_i hK; refine hK _ _ ?_; clear hK) | (rename_i hK _; refine hK _ _ ?_; clear hK) | (rename_i hK _ _; refine hK _ _ ?_; clear hK) | (rename_i hK _ _ _; refine hK _ _ ?_; clear hK) | (rename_i hK _ _ _ _; refine hK _ _ ?_; clear hK) | (rename_i hK _ _ _ _ _; refine hK _ _ ?_; clear hK) | (rename_i hK _ _ _ _ _ _; refine hK _ _ ?_; clear hK) | (rename_i hK _ _ _ _ _ _ _; refine hK _ _ ?_; clear hK) | (rename_i hK _ _ _ _ _ _ _ _; refine hK _ _ ?_; clear hK) | (rename_i hK _ _ _ _ _ _ _ _ _; refine hK _ _ ?_; clear hK) | (rename_i hK _ _ _ _ _ _ _ _ _ _; refine hK _ _ ?_; clear hK) | (rename_i hK _ _ _ _ _ _ _ _ _ _ _; refine hK _ _ ?_; clear hK) | (rename_i hK _ _ _ _ _ _ _ _ _ _ _ _; refine hK _ _ ?_; clear hK) | (rename_i hK _ _ _ _ _ _ _ _ _ _ _ _ _; refine hK _ _ ?_; clear hK) | (rename_i hK _ _ _ _ _ _ _ _ _ _ _ _ _ _; refine hK _ _ ?_; clear hK) | (rename_i hK _ _ _ _ _ _ _ _ _ _ _ _ _ _ _; refine hK _ _ ?_; clear hK) | (rename_i hK _ _ _ _ _ _ _ _ _ _ _ _ _ _ _ _; refine hK _ _ ?_; clear hK) | (rename_i hK _ _ _ _ _ _ _ _ _ _ _ _ _ _ _ _ _; refine hK _ _ ?_; clear hK) | (rename_i hK _ _ _ _ _ _ _ _ _ _ _ _ _ _ _ _ _ _; refine hK _ _ ?_; clear hK) | (rename_i hK _ _ _ _ _ _ _ _ _ _ _ _ _ _ _ _ _ _ _; refine hK _ _ ?_; clear hK) | (rename_i hK _ _ _ _ _ _ _ _ _ _ _ _ _ _ _ _ _ _ _ _; refine hK _ _ ?_; clear hK) | (rename_i hK _ _ _ _ _ _ _ _ _ _ _ _ _ _ _ _ _ _ _ _ _; refine hK _ _ ?_; clear hK) | (rename_i hK _ _ _ _ _ _ _ _ _ _ _ _ _ _ _ _ _ _ _ _ _ _; refine hK _ _ ?_; clear hK) | (rename_i hK _ _ _ _ _ _ _ _ _ _ _ _ _ _ _ _ _ _ _ _ _ _ _; refine hK _ _ ?_; clear hK) | (rename_i hK _ _ _ _ _ _ _ _ _ _ _ _ _ _ _ _ _ _ _ _ _ _ _ _; refine hK _ _ ?_; clear hK) | (rename_i hK _ _ _ _ _ _ _ _ _ _ _ _ _ _ _ _ _ _ _ _ _ _ _ _ _; refine hK _ _ ?_; clear hK) | (rename_i hK _ _ _ _ _ _ _ _ _ _ _ _ _ _ _ _ _ _ _ _ _ _ _ _ _ _; refine hK _ _ ?_; clear hK) | (rename_i hK _ _ _ _ _ _ _ _ _ _ _ _ _ _ _ _ _ _ _ _ _ _ _ _ _ _ _; refine hK _ _ ?_; clear hK) | (rename_i hK _ _ _ _ _ _ _ _ _ _ _ _ _ _ _ _ _ _ _ _ _ _ _ _ _ _ _ _; refine hK _ _ ?_; clear hK) | (rename_i hK _ _ _ _ _ _ _ _ _ _ _ _ _ _ _ _ _ _ _ _ _ _ _ _ _ _ _ _ _; refine hK _ _ ?_; clear hK) | (rename_i hK _ _ _ _ _ _ _ _ _ _ _ _ _ _ _ _ _ _ _ _ _ _ _ _ _ _ _ _ _ _; refine hK _ _ ?_; clear hK) | (rename_i hK _ _ _ _ _ _ _ _ _ _ _ _ _ _ _ _ _ _ _ _ _ _ _ _ _ _ _ _ _ _ _; refine hK _ _ ?_; clear hK) | (rename_i hK _ _ _ _ _ _ _ _ _ _ _ _ _ _ _ _ _ _ _ _ _ _ _ _ _ _ _ _ _ _ _ _; refine hK _ _ ?_; clear hK) | (rename_i hK _ _ _ _ _ _ _ _ _ _ _ _ _ _ _ _ _ _ _ _ _ _ _ _ _ _ _ _ _ _ _ _ _; refine hK _ _ ?_; clear hK) | (rename_i hK _ _ _ _ _ _ _ _ _ _ _ _ _ _ _ _ _ _ _ _ _ _ _ _ _ _ _ _ _ _ _ _ _ _; refine hK _ _ ?_; clear hK) | (rename_i hK _ _ _ _ _ _ _ _ _ _ _ _ _ _ _ _ _ _ _ _ _ _ _ _ _ _ _ _ _ _ _ _ _ _ _; refine hK _ _ ?_; clear hK) | (rename_i hK _ _ _ _ _ _ _ _ _ _ _ _ _ _ _ _ _ _ _ _ _ _ _ _ _ _ _ _ _ _ _ _ _ _ _ _; refine hK _ _ ?_; clear hK) | (rename_i hK _ _ _ _ _ _ _ _ _ _ _ _ _ _ _ _ _ _ _ _ _ _ _ _ _ _ _ _ _ _ _ _ _ _ _ _ _; refine hK _ _ ?_; clear hK) | (rename_i hK _ _ _ _ _ _ _ _ _ _ _ _ _ _ _ _ _ _ _ _ _ _ _ _ _ _ _ _ _ _ _ _ _ _ _ _ _ _; refine hK _ _ ?_; clear hK) | (rename_i hK _ _ _ _ _ _ _ _ _ _ _ _ _ _ _ _ _ _ _ _ _ _ _ _ _ _ _ _ _ _ _ _ _ _ _ _ _ _ _; refine hK _ _ ?_; clear hK)
          rename_i hF _
          go_wp2_with fail
          go_roundw
          case rel => exact ⟨k + 1, N', L', S', by omega, by go_num, Lib.hid ⟨hs', hl2, hS2⟩, h6.fr hF⟩
          case measure => simp [intOf]; omega
        | false =>
          obtain ⟨⟨d, er⟩, hcv⟩ : ∃ r, cval base N zc zl = r := ⟨_, rfl⟩
          have hcv2 := hcv
          rw [cval_same HN.out.1] at hcv2
          have HC := Lib.hid hcv
          have HC2 := Lib.hid hcv2
          clear hcv hcv2
          go_wp2_with fail
          refine (cp_stamp (hO.fr ((Fr.refl _ _).alloc _)) zc zl d er hn hn2 HC.out).mono ?_
          rintro e w5 ⟨rfl, h5, k5⟩
          have box5 := (k5 wr.heap.size _ _ _ (hp_new wr _ rfl) (by decide) (by decide) (by decide) (by decide)).trans (hp_new wr _ rfl)
          have B0 := cl_of box5 0
          have B1 := cl_of box5 1
          go_wp2_with fail
          refine (cp_rstamp h5 zc zl d er hn hn2 (by omega) HC2.out).mono ?_
          rintro e w6 ⟨rfl, h6, k6⟩
          have box := (k6 wr.heap.size _ _ _ box5 (by decide) (by decide) (by decide) (by decide)).trans box5
          have hs' : ∀ j, nget j (if er = 0 then nput (u64s base zc) d N else N) = nget j (if er = 0 then lset (u64s base zc) d L else L) := by
            split
            · exact same_put HN.out.1 _ _
            · exact HN.out.1
          have hl2 : (if er = 0 then lset (u64s base zc) d L else L).length ≤ k + 1 := by
            have := HN.out.2.1
            split
            · have := lset_length (u64s base zc) d L; omega
            · omega
          have hS2 : (clogs true S base zc er).length ≤ 2 * (k + 1) := by have := clogs_length true S base zc er; have := HN.out.2.2; omega
          have hl' : (if er = 0 then lset (u64s base zc) d L else L).length ≤ 10000 := by omega
          have hn' : Few (clogs true S base zc er) := ⟨by omega⟩
          generalize (if er = 0 then nput (u64s base zc) d N else N) = N' at h6 hs'
          generalize (if er = 0 then lset (u64s base zc) d L else L) = L' at h6 hs' hl2 hl'
          generalize clogs true S base zc er = S' at h6 hS2 hn'
          obtain ⟨sv, vL, vS, hc, hr, -, -⟩ := h6.duo.ex
          have hq6 := h6.clk
          have hr6 := h6.rclk
          have t0 := cl_of hr6 0
          have q1 := cl_of hr.obj 1
          have b0 := cl_of box 0
          have fk : ∀ W, Fr (fun _ => False) w6 W → W.cell? ⟨t, 0, none⟩ = some (.pointer (some ⟨q, 0, none⟩)) ∧ W.cell? ⟨q, 1, none⟩ = some vS ∧ W.cell? ⟨wr.heap.size, 0, none⟩ = some (.int .i64 zc) := fun W hF => ⟨(hF.cell (p := ⟨t, 0, none⟩) hr6.lt id).trans t0, (hF.cell (p := ⟨q, 1, none⟩) (hr.lt (.inl rfl)) id).trans q1, (hF.cell (p := ⟨wr.heap.size, 0, none⟩) (Array.getElem?_eq_some_iff.1 box).1 id).trans b0⟩
          have F0 : Fr (fun _ => False) w6 w6 := Fr.refl _ _
          have F1 : Fr (fun _ => False) w6 w6.drew := F0.drew
          go_wp2_with fail
          go_region_held3 (fun W => W.cell? ⟨t, 0, none⟩ = some (.pointer (some ⟨q, 0, none⟩)) ∧ W.cell? ⟨q, 1, none⟩ = some vS ∧ W.cell? ⟨wr.heap.size, 0, none⟩ = some (.int .i64 zc)) (first | assumption | exact fk _ (by assumption)) (first | (go_at_call 47; refine (f_last hq6 hc (by assumption) _).mono ?_; rintro e w' ⟨rfl, hF⟩) | (go_at_call 50; refine (f_rlast hr6 hr hl' hs' (by assumption) _).mono ?_; rintro e w' ⟨rfl, hF⟩) | (go_at_call 46; refine (f_most hq6 hc (by assumption)).mono ?_; rintro e w' ⟨rfl, hF⟩) | (go_at_call 51; refine (f_rmost hr6 hr hl' hs' (by assumption)).mono ?_; rintro e w' ⟨rfl, hF⟩) | (go_at_call 29; refine (f_seen hc hn' (by assumption)).mono ?_; rintro e w' ⟨ao', cap', rfl, hrow, hF⟩) | (go_at_call 28; refine (f_same hr hn' (by assumption) (by assumption)).mono ?_; rintro e w' ⟨rfl, hF⟩))
          first | (rename_i hK; refine hK _ _ ?_; clear hK) | (rename_i hK _; refine hK _ _ ?_; clear hK) | (rename_i hK _ _; refine hK _ _ ?_; clear hK) | (rename_i hK _ _ _; refine hK _ _ ?_; clear hK) | (rename_i hK _ _ _ _; refine hK _ _ ?_; clear hK) | (rename_i hK _ _ _ _ _; refine hK _ _ ?_; clear hK) | (rename_i hK _ _ _ _ _ _; refine hK _ _ ?_; clear hK) | (rename_i hK _ _ _ _ _ _ _; refine hK _ _ ?_; clear hK) | (rename_i hK _ _ _ _ _ _ _ _; refine hK _ _ ?_; clear hK) | (rename_i hK _ _ _ _ _ _ _ _ _; refine hK _ _ ?_; clear hK) | (rename_i hK _ _ _ _ _ _ _ _ _ _; refine hK _ _ ?_; clear hK) | (rename_i hK _ _ _ _ _ _ _ _ _ _ _; refine hK _ _ ?_; clear hK) | (rename_i hK _ _ _ _ _ _ _ _ _ _ _ _; refine hK _ _ ?_; clear hK) | (rename_i hK _ _ _ _ _ _ _ _ _ _ _ _ _; refine hK _ _ ?_; clear hK) | (rename_i hK _ _ _ _ _ _ _ _ _ _ _ _ _ _; refine hK _ _ ?_; clear hK) | (rename_i hK _ _ _ _ _ _ _ _ _ _ _ _ _ _ _; refine hK _ _ ?_; clear hK) | (rename_i hK _ _ _ _ _ _ _ _ _ _ _ _ _ _ _ _; refine hK _ _ ?_; clear hK) | (rename_i hK _ _ _ _ _ _ _ _ _ _ _ _ _ _ _ _ _; refine hK _ _ ?_; clear hK) | (rename_i hK _ _ _ _ _ _ _ _ _ _ _ _ _ _ _ _ _ _; refine hK _ _ ?_; clear hK) | (rename_i hK _ _ _ _ _ _ _ _ _ _ _ _ _ _ _ _ _ _ _; refine hK _ _ ?_; clear hK) | (rename_i hK _ _ _ _ _ _ _ _ _ _ _ _ _ _ _ _ _ _ _ _; refine hK _ _ ?_; clear hK) | (rename_i hK _ _ _ _ _ _ _ _ _ _ _ _ _ _ _ _ _ _ _ _ _; refine hK _ _ ?_; clear hK) | (rename_i hK _ _ _ _ _ _ _ _ _ _ _ _ _ _ _ _ _ _ _ _ _ _; refine hK _ _ ?_; clear hK) | (rename_i hK _ _ _ _ _ _ _ _ _ _ _ _ _ _ _ _ _ _ _ _ _ _ _; refine hK _ _ ?_; clear hK) | (rename_i hK _ _ _ _ _ _ _ _ _ _ _ _ _ _ _ _ _ _ _ _ _ _ _ _; refine hK _ _ ?_; clear hK) | (rename_i hK _ _ _ _ _ _ _ _ _ _ _ _ _ _ _ _ _ _ _ _ _ _ _ _ _; refine hK _ _ ?_; clear hK) | (rename_i hK _ _ _ _ _ _ _ _ _ _ _ _ _ _ _ _ _ _ _ _ _ _ _ _ _ _; refine hK _ _ ?_; clear hK) | (rename_i hK _ _ _ _ _ _ _ _ _ _ _ _ _ _ _ _ _ _ _ _ _ _ _ _ _ _ _; refine hK _ _ ?_; clear hK) | (rename_i hK _ _ _ _ _ _ _ _ _ _ _ _ _ _ _ _ _ _ _ _ _ _ _ _ _ _ _ _; refine hK _ _ ?_; clear hK) | (rename_i hK _ _ _ _ _ _ _ _ _ _ _ _ _ _ _ _ _ _ _ _ _ _ _ _ _ _ _ _ _; refine hK _ _ ?_; clear hK) | (rename_i hK _ _ _ _ _ _ _ _ _ _ _ _ _ _ _ _ _ _ _ _ _ _ _ _ _ _ _ _ _ _; refine hK _ _ ?_; clear hK) | (rename_i hK _ _ _ _ _ _ _ _ _ _ _ _ _ _ _ _ _ _ _ _ _ _ _ _ _ _ _ _ _ _ _; refine hK _ _ ?_; clear hK) | (rename_i hK _ _ _ _ _ _ _ _ _ _ _ _ _ _ _ _ _ _ _ _ _ _ _ _ _ _ _ _ _ _ _ _; refine hK _ _ ?_; clear hK) | (rename_i hK _ _ _ _ _ _ _ _ _ _ _ _ _ _ _ _ _ _ _ _ _ _ _ _ _ _ _ _ _ _ _ _ _; refine hK _ _ ?_; clear hK) | (rename_i hK _ _ _ _ _ _ _ _ _ _ _ _ _ _ _ _ _ _ _ _ _ _ _ _ _ _ _ _ _ _ _ _ _ _; refine hK _ _ ?_; clear hK) | (rename_i hK _ _ _ _ _ _ _ _ _ _ _ _ _ _ _ _ _ _ _ _ _ _ _ _ _ _ _ _ _ _ _ _ _ _ _; refine hK _ _ ?_; clear hK) | (rename_i hK _ _ _ _ _ _ _ _ _ _ _ _ _ _ _ _ _ _ _ _ _ _ _ _ _ _ _ _ _ _ _ _ _ _ _ _; refine hK _ _ ?_; clear hK) | (rename_i hK _ _ _ _ _ _ _ _ _ _ _ _ _ _ _ _ _ _ _ _ _ _ _ _ _ _ _ _ _ _ _ _ _ _ _ _ _; refine hK _ _ ?_; clear hK) | (rename_i hK _ _ _ _ _ _ _ _ _ _ _ _ _ _ _ _ _ _ _ _ _ _ _ _ _ _ _ _ _ _ _ _ _ _ _ _ _ _; refine hK _ _ ?_; clear hK) | (rename_i hK _ _ _ _ _ _ _ _ _ _ _ _ _ _ _ _ _ _ _ _ _ _ _ _ _ _ _ _ _ _ _ _ _ _ _ _ _ _ _; refine hK _ _ ?_; clear hK)
          rename_i hF _
          go_wp2_with fail
          go_roundw
          case rel => exact ⟨k + 1, N', L', S', by omega, by go_num, Lib.hid ⟨hs', hl2, hS2⟩, h6.fr hF⟩
          case measure => simp [intOf]; omega
      · obtain rfl : k = ls.length := by omega
        go_wp2_with fail
        refine (alive16 _).mono ?_
        rintro e w6 ⟨rfl, hB⟩
        go_wp2_with fail
        go_ret
        exact ⟨rfl, bt hO.duo.below hB⟩
end Go.Proofs.Ythmabnigdnbdkaa
