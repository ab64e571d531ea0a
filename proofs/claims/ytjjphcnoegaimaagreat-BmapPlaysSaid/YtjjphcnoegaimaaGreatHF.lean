/- lunettelaw09.alive: the chapter's example. lunettelaw09.BmapKeeps: the walk. -/
import Derived.Test.YtjjphcnoegaimaaGreatHE
import Derived.Test.YtjjphcnoegaimaaGreatGV
namespace Go.Proofs.YtjjphcnoegaimaaGreat
open Go.RowKit Go.Shelf Go.Maps
set_option linter.unusedSimpArgs false
set_option maxRecDepth 20000
set_option linter.unusedVariables false

section
variable {w0 w W W' : World}
/-- A geometry in a box. -/
def GB (bg : Nat) (W : World) : Prop := W.cell? ⟨bg, 0, none⟩ = some (.int .i64 8) ∧ W.cell? ⟨bg, 1, none⟩ = some (.int .i64 16) ∧ W.cell? ⟨bg, 2, none⟩ = some (.int .i64 40)
theorem gb_below {bg : Nat} (hB : Below W.heap.size W W') (h : W.cell? ⟨bg, 0, none⟩ = some (.int .i64 8) ∧ W.cell? ⟨bg, 1, none⟩ = some (.int .i64 16) ∧ W.cell? ⟨bg, 2, none⟩ = some (.int .i64 40)) : W'.cell? ⟨bg, 0, none⟩ = some (.int .i64 8) ∧ W'.cell? ⟨bg, 1, none⟩ = some (.int .i64 16) ∧ W'.cell? ⟨bg, 2, none⟩ = some (.int .i64 40) :=
  ⟨(hB.cell (p := ⟨bg, 0, none⟩) (lt_of_cell h.1)).trans h.1, (hB.cell (p := ⟨bg, 1, none⟩) (lt_of_cell h.1)).trans h.2.1, (hB.cell (p := ⟨bg, 2, none⟩) (lt_of_cell h.1)).trans h.2.2⟩
theorem gb_set {bg : Nat} {A : World} (hA : A.cell? ⟨bg, 0, none⟩ = some (.int .i64 8) ∧ A.cell? ⟨bg, 1, none⟩ = some (.int .i64 16) ∧ A.cell? ⟨bg, 2, none⟩ = some (.int .i64 40)) {o : Nat} {u : Value} (h : W.cell? ⟨bg, 0, none⟩ = some (.int .i64 8) ∧ W.cell? ⟨bg, 1, none⟩ = some (.int .i64 16) ∧ W.cell? ⟨bg, 2, none⟩ = some (.int .i64 40)) :
    (W.setCell ⟨A.heap.size, o, none⟩ u).cell? ⟨bg, 0, none⟩ = some (.int .i64 8) ∧ (W.setCell ⟨A.heap.size, o, none⟩ u).cell? ⟨bg, 1, none⟩ = some (.int .i64 16) ∧ (W.setCell ⟨A.heap.size, o, none⟩ u).cell? ⟨bg, 2, none⟩ = some (.int .i64 40) := by
  have hne : bg ≠ A.heap.size := Nat.ne_of_lt (lt_of_cell hA.1)
  have hk := kb_set (W := W) (b := A.heap.size) o u bg hne
  exact ⟨(World.cell?_of_block hk).trans h.1, (World.cell?_of_block hk).trans h.2.1, (World.cell?_of_block hk).trans h.2.2⟩

theorem row_slice {B : Nat} {e : TypeId} {size : Nat} {v : Value} {k : Nat} {xs : List Value} (h : W.ownsRow B e size v k xs) : ∃ a l c, v = .slice a l c := by
  rcases h.2 with ⟨rfl, _⟩ | ⟨g, cap, cur, rfl, _⟩
  · exact ⟨_, _, _, rfl⟩
  · exact ⟨_, _, _, rfl⟩
theorem gb_kb {bg : Nat} {Y : Nat → Prop} (hK : Kb w0 Y W W') (hb : bg < w0.heap.size ∨ Y bg) (h : W.cell? ⟨bg, 0, none⟩ = some (.int .i64 8) ∧ W.cell? ⟨bg, 1, none⟩ = some (.int .i64 16) ∧ W.cell? ⟨bg, 2, none⟩ = some (.int .i64 40)) : W'.cell? ⟨bg, 0, none⟩ = some (.int .i64 8) ∧ W'.cell? ⟨bg, 1, none⟩ = some (.int .i64 16) ∧ W'.cell? ⟨bg, 2, none⟩ = some (.int .i64 40) :=
  ⟨(hK.cell hb 0).trans h.1, (hK.cell hb 1).trans h.2.1, (hK.cell hb 2).trans h.2.2⟩
theorem row_sets {B b : Nat} {v : Value} {k : Nat} {xs : List Value} {u0 u1 u2 u3 u4 u5 u6 u7 : Value} (h : W.ownsRow B 57 1 v k xs) (hb : b < B) : ((((((((W.setCell ⟨b, 0, none⟩ u0).setCell ⟨b, 1, none⟩ u1).setCell ⟨b, 2, none⟩ u2).setCell ⟨b, 3, none⟩ u3).setCell ⟨b, 4, none⟩ u4).setCell ⟨b, 5, none⟩ u5).setCell ⟨b, 6, none⟩ u6).setCell ⟨b, 7, none⟩ u7).ownsRow B 57 1 v k xs := by
  have one : ∀ (A : World) (o : Nat) (u : Value), A.ownsRow B 57 1 v k xs → (A.setCell ⟨b, o, none⟩ u).ownsRow B 57 1 v k xs := fun A o u hA => ownsRow_blockB hA (fun j e => by
    rcases hA.2 with ⟨e2, _⟩ | ⟨g, c, cur, e2, h0, _⟩
    · rw [e2] at e; cases e
    · rw [e2] at e
      cases e
      have hg : g ≠ b := by omega
      exact kb_set o u g hg)
  exact one _ _ _ (one _ _ _ (one _ _ _ (one _ _ _ (one _ _ _ (one _ _ _ (one _ _ _ (one _ _ _ h)))))))
theorem hp_newd (w : World) (o : Obj) : (w.alloc o).drew.heap[w.heap.size]? = some o := hp_new w o rfl
theorem below_sets {n b : Nat} {A B : World} {u0 u1 u2 u3 u4 u5 u6 u7 : Value} (h : Below n A B) (hb : n ≤ b) : Below n A ((((((((B.setCell ⟨b, 0, none⟩ u0).setCell ⟨b, 1, none⟩ u1).setCell ⟨b, 2, none⟩ u2).setCell ⟨b, 3, none⟩ u3).setCell ⟨b, 4, none⟩ u4).setCell ⟨b, 5, none⟩ u5).setCell ⟨b, 6, none⟩ u6).setCell ⟨b, 7, none⟩ u7) :=
  (((((((h.setCell hb _).setCell hb _).setCell hb _).setCell hb _).setCell hb _).setCell hb _).setCell hb _).setCell hb _
theorem gb_sets {bg : Nat} {A : World} (hA : A.cell? ⟨bg, 0, none⟩ = some (.int .i64 8) ∧ A.cell? ⟨bg, 1, none⟩ = some (.int .i64 16) ∧ A.cell? ⟨bg, 2, none⟩ = some (.int .i64 40)) {u0 u1 u2 u3 u4 u5 u6 u7 : Value} (h : W.cell? ⟨bg, 0, none⟩ = some (.int .i64 8) ∧ W.cell? ⟨bg, 1, none⟩ = some (.int .i64 16) ∧ W.cell? ⟨bg, 2, none⟩ = some (.int .i64 40)) :
    ((((((((W.setCell ⟨A.heap.size, 0, none⟩ u0).setCell ⟨A.heap.size, 1, none⟩ u1).setCell ⟨A.heap.size, 2, none⟩ u2).setCell ⟨A.heap.size, 3, none⟩ u3).setCell ⟨A.heap.size, 4, none⟩ u4).setCell ⟨A.heap.size, 5, none⟩ u5).setCell ⟨A.heap.size, 6, none⟩ u6).setCell ⟨A.heap.size, 7, none⟩ u7).cell? ⟨bg, 0, none⟩ = some (.int .i64 8) ∧ ((((((((W.setCell ⟨A.heap.size, 0, none⟩ u0).setCell ⟨A.heap.size, 1, none⟩ u1).setCell ⟨A.heap.size, 2, none⟩ u2).setCell ⟨A.heap.size, 3, none⟩ u3).setCell ⟨A.heap.size, 4, none⟩ u4).setCell ⟨A.heap.size, 5, none⟩ u5).setCell ⟨A.heap.size, 6, none⟩ u6).setCell ⟨A.heap.size, 7, none⟩ u7).cell? ⟨bg, 1, none⟩ = some (.int .i64 16) ∧ ((((((((W.setCell ⟨A.heap.size, 0, none⟩ u0).setCell ⟨A.heap.size, 1, none⟩ u1).setCell ⟨A.heap.size, 2, none⟩ u2).setCell ⟨A.heap.size, 3, none⟩ u3).setCell ⟨A.heap.size, 4, none⟩ u4).setCell ⟨A.heap.size, 5, none⟩ u5).setCell ⟨A.heap.size, 6, none⟩ u6).setCell ⟨A.heap.size, 7, none⟩ u7).cell? ⟨bg, 2, none⟩ = some (.int .i64 40) :=
  gb_set hA (gb_set hA (gb_set hA (gb_set hA (gb_set hA (gb_set hA (gb_set hA (gb_set hA h)))))))
theorem gb_sets' {bg nb : Nat} {A : World} (hn : A.heap.size = nb) (hA : A.cell? ⟨bg, 0, none⟩ = some (.int .i64 8) ∧ A.cell? ⟨bg, 1, none⟩ = some (.int .i64 16) ∧ A.cell? ⟨bg, 2, none⟩ = some (.int .i64 40)) {u0 u1 u2 u3 u4 u5 u6 u7 : Value} (h : W.cell? ⟨bg, 0, none⟩ = some (.int .i64 8) ∧ W.cell? ⟨bg, 1, none⟩ = some (.int .i64 16) ∧ W.cell? ⟨bg, 2, none⟩ = some (.int .i64 40)) :
    ((((((((W.setCell ⟨nb, 0, none⟩ u0).setCell ⟨nb, 1, none⟩ u1).setCell ⟨nb, 2, none⟩ u2).setCell ⟨nb, 3, none⟩ u3).setCell ⟨nb, 4, none⟩ u4).setCell ⟨nb, 5, none⟩ u5).setCell ⟨nb, 6, none⟩ u6).setCell ⟨nb, 7, none⟩ u7).cell? ⟨bg, 0, none⟩ = some (.int .i64 8) ∧ ((((((((W.setCell ⟨nb, 0, none⟩ u0).setCell ⟨nb, 1, none⟩ u1).setCell ⟨nb, 2, none⟩ u2).setCell ⟨nb, 3, none⟩ u3).setCell ⟨nb, 4, none⟩ u4).setCell ⟨nb, 5, none⟩ u5).setCell ⟨nb, 6, none⟩ u6).setCell ⟨nb, 7, none⟩ u7).cell? ⟨bg, 1, none⟩ = some (.int .i64 16) ∧ ((((((((W.setCell ⟨nb, 0, none⟩ u0).setCell ⟨nb, 1, none⟩ u1).setCell ⟨nb, 2, none⟩ u2).setCell ⟨nb, 3, none⟩ u3).setCell ⟨nb, 4, none⟩ u4).setCell ⟨nb, 5, none⟩ u5).setCell ⟨nb, 6, none⟩ u6).setCell ⟨nb, 7, none⟩ u7).cell? ⟨bg, 2, none⟩ = some (.int .i64 40) :=
  by subst hn; exact gb_set hA (gb_set hA (gb_set hA (gb_set hA (gb_set hA (gb_set hA (gb_set hA (gb_set hA h)))))))
theorem twoI_wf : twoI.Wf := by constructor <;> decide
theorem two_may (v : Int) (hv : v ≤ 16) : MayB 8 16 40 twoI v := ⟨mays_small, hv, by decide, fun k hk => by
  have : k = 0 ∨ k = 1 ∨ k = 2 ∨ k = 3 := by omega
  rcases this with rfl | rfl | rfl | rfl <;> decide⟩
theorem sz_nil : Sz [] := fun y hy => by cases hy

set_option maxHeartbeats 8000000 in
theorem alive09_any (w : World) : Calls Tryz.prog 25 #[] w fun e w' => e = .returned (.bool true) ∧ Below w.heap.size w w' := by
  go_enter Tryz.func25, Tryz.ntmps25
  go_wp2_with fail
  refine (small_any w).mono ?_
  rintro e w1 ⟨rfl, hB1⟩
  unfold gv
  go_wp2_with fail
  have b2 : (w1.alloc (.cells #[.int .i64 8, .int .i64 16, .int .i64 40] 56)).heap[w1.heap.size]? = some (.cells #[.int .i64 8, .int .i64 16, .int .i64 40] 56 (0, 0)) := hp_new _ _ rfl
  have hB2 := bal hB1 (.cells #[.int .i64 8, .int .i64 16, .int .i64 40] 56)
  obtain ⟨W2, hW2⟩ : ∃ W2, w1.alloc (.cells #[.int .i64 8, .int .i64 16, .int .i64 40] 56) = W2 := ⟨_, rfl⟩
  obtain ⟨bg, hbg⟩ : ∃ bg, w1.heap.size = bg := ⟨_, rfl⟩
  rw [hW2, hbg] at b2
  rw [hW2] at hB2
  simp only [hW2, hbg]
  have hmd := made9_any (w0 := w) mays_small (N := 63) (by rfl) hB2
  unfold gv at hmd
  have HMD := Lib.hid hmd
  have hbs := blk_lt b2
  have hbw : w.heap.size ≤ bg := by rw [← hbg]; exact hB1.size
  have HBS := Lib.hid hbs
  have HBW := Lib.hid hbw
  clear hmd hB1 hB2 hW2 hbg hbs hbw
  have g0 := cl_of b2 0
  have g1 := cl_of b2 1
  have g2 := cl_of b2 2
  go_wp2_with fail
  refine HMD.out.mono ?_
  rintro e w4 ⟨tb, p, rfl, X, jb, m, h4, hX, hjb, htb, hm, hB4⟩
  have d3 := bblk hB4 b2
  have g0 : w4.cell? ⟨bg, 0, none⟩ = some (.int .i64 8) := cl_of d3 0
  have g1 : w4.cell? ⟨bg, 1, none⟩ = some (.int .i64 16) := cl_of d3 1
  have g2 : w4.cell? ⟨bg, 2, none⟩ = some (.int .i64 40) := cl_of d3 2
  have HT4 := Lib.hid h4
  have HXB : Hid (X bg) := Lib.hid (hX bg HBW.out HBS.out)
  have HM : Hid (bg ≠ jb ∧ bg ≠ tb ∧ bg ≠ m) := Lib.hid (by have := HBS.out; omega)
  clear h4 hX hjb htb hm hB4 d3 b2 HMD HBS
  have htwo := fun W => two_any W
  have hget := fun (W2 : World) (h2 : TJ w X p jb 63 0 1 40 0 0 (newS 63) tb m [] false W2) => bget_any (bsn := 0) h2 geoN_small (two_may 0 (by decide)) twoI_wf sz_nil (fun h => absurd rfl h) 1 (by decide)
  rw [show pg twoI [] 0 1 = 9 from rfl, show ((1 : Nat) : Int) = 1 from rfl] at hget
  unfold gv at hget
  unfold ic twoI at hget htwo
  have HTWO := Lib.hid htwo
  have HGET := Lib.hid hget
  clear htwo hget
  go_wp2_with fail
  first | (go_region_held3 (fun Wq => Wq.cell? ⟨bg, 0, none⟩ = some (.int .i64 8) ∧ Wq.cell? ⟨bg, 1, none⟩ = some (.int .i64 16) ∧ Wq.cell? ⟨bg, 2, none⟩ = some (.int .i64 40)) (first | exact ⟨g0, g1, g2⟩ | assumption | exact gb_below (by assumption) (by assumption)) (first | (go_at_call 54; ((with_reducible refine (HTWO.out _).mono ?_); rintro e w5 ⟨rfl, hB5⟩; have hT5 := ((HT4.out.of (Below.refl _ _).drew).of hB5))) | (go_at_call 32; ((with_reducible refine (HGET.out _ hT5).mono ?_); rintro e w6 ⟨rfl, hB6⟩)))) | fail
  first | (rename_i hK; refine hK _ _ ?_; clear hK) | (rename_i hK _; refine hK _ _ ?_; clear hK) | (rename_i hK _ _; refine hK _ _ ?_; clear hK)
  have HT6 := Lib.hid (hT5.of hB6)
  have hset := fun (W : World) => bset_none (tb := tb) (two_may 3 (by decide)) twoI_wf rfl (by decide) (by decide) 4 (by decide) (by decide) W
  rw [show ((4 : Nat) : Int) = 4 from rfl] at hset
  unfold gv at hset
  unfold ic twoI Ino.zero at hset
  have HST := Lib.hid hset
  have h6 := (‹w6.cell? ⟨bg, 0, none⟩ = some (.int .i64 8) ∧ w6.cell? ⟨bg, 1, none⟩ = some (.int .i64 16) ∧ w6.cell? ⟨bg, 2, none⟩ = some (.int .i64 40)›)
  clear hset hT5 hB5 hB6 g0 g1 g2 HGET
  go_wp2_with fail
  apply region_mid (R := fun _ W' => Below w6.heap.size w6 W')
  case h =>
    refine wp_region_held_drew (S := (fun Wq => Wq.cell? ⟨bg, 0, none⟩ = some (.int .i64 8) ∧ Wq.cell? ⟨bg, 1, none⟩ = some (.int .i64 16) ∧ Wq.cell? ⟨bg, 2, none⟩ = some (.int .i64 40))) (by kernel_rfl) (by exact h6) (fun hHeld => ?_)
    refine wpAnyH_now (i := 0) (v := ?v0) rfl (by kernel_rfl) (by kernel_rfl) (by kernel_rfl) (fun _ _ _ h => h) (by rfl) ?h0 (by assumption) ?_
    case h0 => ((intro w hSw; (try dsimp only at hSw); go_simp); try with_reducible rfl)
    (try simp only [Act.put, List.setIfInBounds_toArray, List.set_cons_succ, List.set_cons_zero])
    refine wpAnyH_now (i := 1) (v := ?v1) rfl (by kernel_rfl) (by kernel_rfl) (by kernel_rfl) (fun _ _ _ h => h) (by rfl) ?h1 (by assumption) ?_
    case h1 => ((intro w hSw; (try dsimp only at hSw); go_simp); try with_reducible rfl)
    (try simp only [Act.put, List.setIfInBounds_toArray, List.set_cons_succ, List.set_cons_zero])
    refine wpAnyH_two (i := 2) (j := 7) (by kernel_rfl) rfl rfl (by rfl) (by rfl) (fun K hK => ?_) (fun K hK => ?_)
    · go_simp
      refine (HTWO.out _).mono ?_
      rintro e w5 ⟨rfl, hB5⟩
      refine hK.out _ _ (by exact gb_below hB5 hHeld) (fun hHeld => ?_)
      clear hK K
      (try simp only [Act.put, List.setIfInBounds_toArray, List.set_cons_succ, List.set_cons_zero])
      refine wpAnyH_two (i := 3) (j := 7) (by kernel_rfl) rfl rfl (by rfl) (by rfl) (fun K hK => ?_) (fun K hK => ?_)
      · go_simp
        refine (HST.out _).mono ?_
        rintro e w7 ⟨rfl, hB7⟩
        refine hK.out _ _ (by exact gb_below hB7 hHeld) (fun hHeld => ?_)
        clear hK K
        (try simp only [Act.put, List.setIfInBounds_toArray, List.set_cons_succ, List.set_cons_zero])
        refine wpAnyH_now (i := 4) (v := ?v2) rfl (by kernel_rfl) (by kernel_rfl) (by kernel_rfl) (fun _ _ _ h => h) (by rfl) ?h2 (by assumption) ?_
        case h2 => ((intro w hSw; (try dsimp only at hSw); go_simp); try with_reducible rfl)
        (try simp only [Act.put, List.setIfInBounds_toArray, List.set_cons_succ, List.set_cons_zero])
        refine wpAnyH_now (i := 5) (v := ?v3) rfl (by kernel_rfl) (by kernel_rfl) (by kernel_rfl) (fun _ _ _ h => h) (by rfl) ?h3 (by assumption) ?_
        case h3 => ((intro w hSw; (try dsimp only at hSw); go_simp); try with_reducible rfl)
        (try simp only [Act.put, List.setIfInBounds_toArray, List.set_cons_succ, List.set_cons_zero])
        refine wpAnyH_now (i := 6) (v := ?v4) rfl (by kernel_rfl) (by kernel_rfl) (by kernel_rfl) (fun _ _ _ h => h) (by rfl) ?h4 (by assumption) ?_
        case h4 => ((intro w hSw; (try dsimp only at hSw); go_simp); try with_reducible rfl)
        (try simp only [Act.put, List.setIfInBounds_toArray, List.set_cons_succ, List.set_cons_zero])
        refine wpAnyH_only (i := 7) (by kernel_rfl) rfl (by rfl) (fun K hK => ?_)
        go_simp
        refine hK.out _ _ (by exact gb_below (bnew _ _) hHeld) (fun hHeld => ?_)
        clear hK K
        (try simp only [Act.put, List.setIfInBounds_toArray, List.set_cons_succ, List.set_cons_zero])
        have nb := hp_new w7 (.cells #[.int .u8 0, .int .u16 0, .int .u32 0, .int .u16 0, .int .u16 0, .int .u16 0, .int .u16 0, .int .u16 0] 61) rfl
        have n0 := cl_of nb 0; have n1 := cl_of nb 1; have n2 := cl_of nb 2; have n3 := cl_of nb 3; have n4 := cl_of nb 4; have n5 := cl_of nb 5; have n6 := cl_of nb 6; have n7 := cl_of nb 7; have nz := fz_of nb
        have hS7 := gb_below hB7 (gb_below hB5 h6)
        refine wpAnyH_only (i := 8) (by kernel_rfl) rfl (by rfl) (fun K hK => ?_)
        go_simp
        refine hK.out _ _ (by exact gb_below (bnew _ _) hS7) (fun hHeld => ?_)
        clear hK K
        (try simp only [Act.put, List.setIfInBounds_toArray, List.set_cons_succ, List.set_cons_zero])
        refine wpAnyH_now (i := 9) (v := ?v5) rfl (by kernel_rfl) (by kernel_rfl) (by kernel_rfl) (fun _ _ _ h => h) (by rfl) ?h5 (by assumption) ?_
        case h5 => ((intro w hSw; (try dsimp only at hSw); go_simp); try with_reducible rfl)
        (try simp only [Act.put, List.setIfInBounds_toArray, List.set_cons_succ, List.set_cons_zero])
        refine wpAnyH_done (by kernel_rfl) ?_ _
        refine NoPanic.normal ?_
        obtain ⟨nbv, hnb⟩ : ∃ k, w7.heap.size = k := ⟨_, rfl⟩
        rw [hnb]
        exact ⟨rfl, nbv, rfl, by exact bal (bt (bt (Below.refl _ w6).drew hB5) hB7) _⟩
      · go_simp
        refine hK.out _ _ (by exact gb_below (bnew _ _) hHeld) (fun hHeld => ?_)
        clear hK K
        (try simp only [Act.put, List.setIfInBounds_toArray, List.set_cons_succ, List.set_cons_zero])
        have nb0 := hp_new w5 (.cells #[.int .u8 0, .int .u16 0, .int .u32 0, .int .u16 0, .int .u16 0, .int .u16 0, .int .u16 0, .int .u16 0] 61) rfl
        refine wpAnyH_only (i := 3) (by kernel_rfl) rfl (by rfl) (fun K hK => ?_)
        go_simp
        refine (HST.out _).mono ?_
        rintro e w7 ⟨rfl, hB7⟩
        refine hK.out _ _ (by exact gb_below hB7 hHeld) (fun hHeld => ?_)
        clear hK K
        (try simp only [Act.put, List.setIfInBounds_toArray, List.set_cons_succ, List.set_cons_zero])
        have nb := bblk hB7 nb0
        have n0 := cl_of nb 0; have n1 := cl_of nb 1; have n2 := cl_of nb 2; have n3 := cl_of nb 3; have n4 := cl_of nb 4; have n5 := cl_of nb 5; have n6 := cl_of nb 6; have n7 := cl_of nb 7; have nz := fz_of nb
        refine wpAnyH_now (i := 4) (v := ?v6) rfl (by kernel_rfl) (by kernel_rfl) (by kernel_rfl) (fun _ _ _ h => h) (by rfl) ?h6 (by assumption) ?_
        case h6 => ((intro w hSw; (try dsimp only at hSw); go_simp); try with_reducible rfl)
        (try simp only [Act.put, List.setIfInBounds_toArray, List.set_cons_succ, List.set_cons_zero])
        refine wpAnyH_now (i := 5) (v := ?v7) rfl (by kernel_rfl) (by kernel_rfl) (by kernel_rfl) (fun _ _ _ h => h) (by rfl) ?h7 (by assumption) ?_
        case h7 => ((intro w hSw; (try dsimp only at hSw); go_simp); try with_reducible rfl)
        (try simp only [Act.put, List.setIfInBounds_toArray, List.set_cons_succ, List.set_cons_zero])
        refine wpAnyH_now (i := 6) (v := ?v8) rfl (by kernel_rfl) (by kernel_rfl) (by kernel_rfl) (fun _ _ _ h => h) (by rfl) ?h8 (by assumption) ?_
        case h8 => ((intro w hSw; (try dsimp only at hSw); go_simp); try with_reducible rfl)
        (try simp only [Act.put, List.setIfInBounds_toArray, List.set_cons_succ, List.set_cons_zero])
        have hS5 := gb_below hB5 h6
        refine wpAnyH_only (i := 8) (by kernel_rfl) rfl (by rfl) (fun K hK => ?_)
        go_simp
        refine hK.out _ _ (by exact gb_sets (A := w5) hS5 (gb_below hB7 (gb_below (bnew _ _) hS5))) (fun hHeld => ?_)
        clear hK K
        (try simp only [Act.put, List.setIfInBounds_toArray, List.set_cons_succ, List.set_cons_zero])
        refine wpAnyH_now (i := 9) (v := ?v9) rfl (by kernel_rfl) (by kernel_rfl) (by kernel_rfl) (fun _ _ _ h => h) (by rfl) ?h9 (by assumption) ?_
        case h9 => ((intro w hSw; (try dsimp only at hSw); go_simp); try with_reducible rfl)
        (try simp only [Act.put, List.setIfInBounds_toArray, List.set_cons_succ, List.set_cons_zero])
        refine wpAnyH_done (by kernel_rfl) ?_ _
        refine NoPanic.normal ?_
        obtain ⟨nbv, hnb⟩ : ∃ k, w5.heap.size = k := ⟨_, rfl⟩
        rw [hnb]
        exact ⟨rfl, nbv, rfl, by exact below_sets (bt (bal (bt (Below.refl _ w6).drew hB5) _) hB7) (Nat.le_trans hB5.size (Nat.le_of_eq hnb))⟩
    · go_simp
      refine hK.out _ _ (by exact gb_below (bnew _ _) hHeld) (fun hHeld => ?_)
      clear hK K
      (try simp only [Act.put, List.setIfInBounds_toArray, List.set_cons_succ, List.set_cons_zero])
      have nb0 := hp_newd w6 (.cells #[.int .u8 0, .int .u16 0, .int .u32 0, .int .u16 0, .int .u16 0, .int .u16 0, .int .u16 0, .int .u16 0] 61)
      refine wpAnyH_only (i := 2) (by kernel_rfl) rfl (by rfl) (fun K hK => ?_)
      go_simp
      refine (HTWO.out _).mono ?_
      rintro e w5 ⟨rfl, hB5⟩
      refine hK.out _ _ (by exact gb_below hB5 hHeld) (fun hHeld => ?_)
      clear hK K
      (try simp only [Act.put, List.setIfInBounds_toArray, List.set_cons_succ, List.set_cons_zero])
      have nb1 := bblk hB5 nb0
      refine wpAnyH_only (i := 3) (by kernel_rfl) rfl (by rfl) (fun K hK => ?_)
      go_simp
      refine (HST.out _).mono ?_
      rintro e w7 ⟨rfl, hB7⟩
      refine hK.out _ _ (by exact gb_below hB7 hHeld) (fun hHeld => ?_)
      clear hK K
      (try simp only [Act.put, List.setIfInBounds_toArray, List.set_cons_succ, List.set_cons_zero])
      have nb := bblk hB7 nb1
      have n0 := cl_of nb 0; have n1 := cl_of nb 1; have n2 := cl_of nb 2; have n3 := cl_of nb 3; have n4 := cl_of nb 4; have n5 := cl_of nb 5; have n6 := cl_of nb 6; have n7 := cl_of nb 7; have nz := fz_of nb
      refine wpAnyH_now (i := 4) (v := ?v10) rfl (by kernel_rfl) (by kernel_rfl) (by kernel_rfl) (fun _ _ _ h => h) (by rfl) ?h10 (by assumption) ?_
      case h10 => ((intro w hSw; (try dsimp only at hSw); go_simp); try with_reducible rfl)
      (try simp only [Act.put, List.setIfInBounds_toArray, List.set_cons_succ, List.set_cons_zero])
      refine wpAnyH_now (i := 5) (v := ?v11) rfl (by kernel_rfl) (by kernel_rfl) (by kernel_rfl) (fun _ _ _ h => h) (by rfl) ?h11 (by assumption) ?_
      case h11 => ((intro w hSw; (try dsimp only at hSw); go_simp); try with_reducible rfl)
      (try simp only [Act.put, List.setIfInBounds_toArray, List.set_cons_succ, List.set_cons_zero])
      refine wpAnyH_now (i := 6) (v := ?v12) rfl (by kernel_rfl) (by kernel_rfl) (by kernel_rfl) (fun _ _ _ h => h) (by rfl) ?h12 (by assumption) ?_
      case h12 => ((intro w hSw; (try dsimp only at hSw); go_simp); try with_reducible rfl)
      (try simp only [Act.put, List.setIfInBounds_toArray, List.set_cons_succ, List.set_cons_zero])
      refine wpAnyH_only (i := 8) (by kernel_rfl) rfl (by rfl) (fun K hK => ?_)
      go_simp
      refine hK.out _ _ (by exact gb_sets (A := w6) h6 (gb_below hB7 (gb_below hB5 (gb_below (bnew _ _).drew h6)))) (fun hHeld => ?_)
      clear hK K
      (try simp only [Act.put, List.setIfInBounds_toArray, List.set_cons_succ, List.set_cons_zero])
      refine wpAnyH_now (i := 9) (v := ?v13) rfl (by kernel_rfl) (by kernel_rfl) (by kernel_rfl) (fun _ _ _ h => h) (by rfl) ?h13 (by assumption) ?_
      case h13 => ((intro w hSw; (try dsimp only at hSw); go_simp); try with_reducible rfl)
      (try simp only [Act.put, List.setIfInBounds_toArray, List.set_cons_succ, List.set_cons_zero])
      refine wpAnyH_done (by kernel_rfl) ?_ _
      refine NoPanic.normal ?_
      obtain ⟨nbv, hnb⟩ : ∃ k, w6.heap.size = k := ⟨_, rfl⟩
      rw [hnb]
      exact ⟨rfl, nbv, rfl, by exact below_sets (by (rw [← hnb]; exact bt (bt (bnew w6 _).drew hB5) hB7)) (Nat.le_refl _)⟩
  case hc =>
    intro nb w8 hB8
    have HT8 := Lib.hid (HT6.out.of hB8)
    have h8 := gb_below hB8 h6
    have hcut := fun (W2 : World) (X2 : Nat → Prop) (h2 : TJ w X2 p jb 63 0 1 40 0 0 (newS 63) tb m [] false W2) => bcut_any (bsn := 0) h2 geoN_small (two_may 0 (by decide)) twoI_wf sz_nil (fun h => absurd rfl h) 1 (by decide) (.inr (by decide))
    unfold CutPost at hcut
    rw [show twoI.cut 1 = ⟨1, 0, 128, 7, 0, 0, 0, 0⟩ from rfl, show cutF twoI [] 0 1 = [9] from rfl, show cutM twoI [] 0 1 = [] from rfl, show ((1 : Nat) : Int) = 1 from rfl] at hcut
    unfold gv at hcut
    unfold ic twoI at hcut
    have HCUT := Lib.hid hcut
    clear hcut hB8 h6 HST HT6
    go_wp2_with fail
    apply region_mid2 (R := fun nb v W' => W'.heap[nb]? = some (.cells (ic ⟨1, 0, 128, 7, 0, 0, 0, 0⟩) 61 (0, 0)) ∧ (W'.cell? ⟨bg, 0, none⟩ = some (.int .i64 8) ∧ W'.cell? ⟨bg, 1, none⟩ = some (.int .i64 16) ∧ W'.cell? ⟨bg, 2, none⟩ = some (.int .i64 40)) ∧ W'.ownsRow 0 57 1 v ([9] : List Int).length (u16s [9]) ∧ Below w.heap.size w W')
    case h =>
     refine wp_region_held_drew (S := (fun Wq => Wq.cell? ⟨bg, 0, none⟩ = some (.int .i64 8) ∧ Wq.cell? ⟨bg, 1, none⟩ = some (.int .i64 16) ∧ Wq.cell? ⟨bg, 2, none⟩ = some (.int .i64 40))) (by kernel_rfl) (by exact h8) (fun hHeld => ?_)
     refine wpAnyH_now (i := 0) (v := ?v100) rfl (by kernel_rfl) (by kernel_rfl) (by kernel_rfl) (fun _ _ _ h => h) (by rfl) ?h100 (by assumption) ?_
     case h100 => ((intro w hSw; (try dsimp only at hSw); go_simp); try with_reducible rfl)
     (try simp only [Act.put, List.setIfInBounds_toArray, List.set_cons_succ, List.set_cons_zero])
     refine wpAnyH_now (i := 1) (v := ?v101) rfl (by kernel_rfl) (by kernel_rfl) (by kernel_rfl) (fun _ _ _ h => h) (by rfl) ?h101 (by assumption) ?_
     case h101 => ((intro w hSw; (try dsimp only at hSw); go_simp); try with_reducible rfl)
     (try simp only [Act.put, List.setIfInBounds_toArray, List.set_cons_succ, List.set_cons_zero])
     refine wpAnyH_two (i := 2) (j := 8) (by kernel_rfl) rfl rfl (by rfl) (by rfl) (fun K hK => ?_) (fun K hK => ?_)
     · go_simp
       refine (HTWO.out _).mono ?_
       rintro e w5 ⟨rfl, hB5⟩
       refine hK.out _ _ (by exact gb_below hB5 hHeld) (fun hHeld => ?_)
       clear hK K
       (try simp only [Act.put, List.setIfInBounds_toArray, List.set_cons_succ, List.set_cons_zero])
       refine wpAnyH_two (i := 3) (j := 8) (by kernel_rfl) rfl rfl (by rfl) (by rfl) (fun K hK => ?_) (fun K hK => ?_)
       · have hT5 := HT8.out.of (bt (Below.refl _ w8).drew hB5)
         go_simp
         refine (HCUT.out _ _ hT5).mono ?_
         rintro e w7 ⟨v, rfl, hrow, hT7, hK7⟩
         obtain ⟨ao, ln, cp, rfl⟩ := row_slice hrow
         refine hK.out _ _ (by exact gb_kb hK7 (.inr ⟨HXB.out, HM.out.2.2⟩) hHeld) (fun hHeld => ?_)
         clear hK K
         (try simp only [Act.put, List.setIfInBounds_toArray, List.set_cons_succ, List.set_cons_zero])
         refine wpAnyH_now (i := 4) (v := ?v102) rfl (by kernel_rfl) (by kernel_rfl) (by kernel_rfl) (fun _ _ _ h => h) (by rfl) ?h102 (by assumption) ?_
         case h102 => ((intro w hSw; (try dsimp only at hSw); go_simp); try with_reducible rfl)
         (try simp only [Act.put, List.setIfInBounds_toArray, List.set_cons_succ, List.set_cons_zero])
         refine wpAnyH_now (i := 5) (v := ?v103) rfl (by kernel_rfl) (by kernel_rfl) (by kernel_rfl) (fun _ _ _ h => h) (by rfl) ?h103 (by assumption) ?_
         case h103 => ((intro w hSw; (try dsimp only at hSw); go_simp); try with_reducible rfl)
         (try simp only [Act.put, List.setIfInBounds_toArray, List.set_cons_succ, List.set_cons_zero])
         refine wpAnyH_now (i := 6) (v := ?v104) rfl (by kernel_rfl) (by kernel_rfl) (by kernel_rfl) (fun _ _ _ h => h) (by rfl) ?h104 (by assumption) ?_
         case h104 => ((intro w hSw; (try dsimp only at hSw); go_simp); try with_reducible rfl)
         (try simp only [Act.put, List.setIfInBounds_toArray, List.set_cons_succ, List.set_cons_zero])
         refine wpAnyH_now (i := 7) (v := ?v105) rfl (by kernel_rfl) (by kernel_rfl) (by kernel_rfl) (fun _ _ _ h => h) (by rfl) ?h105 (by assumption) ?_
         case h105 => ((intro w hSw; (try dsimp only at hSw); go_simp); try with_reducible rfl)
         (try simp only [Act.put, List.setIfInBounds_toArray, List.set_cons_succ, List.set_cons_zero])
         refine wpAnyH_only (i := 8) (by kernel_rfl) rfl (by rfl) (fun K hK => ?_)
         go_simp
         refine hK.out _ _ (by exact gb_below (bnew _ _) hHeld) (fun hHeld => ?_)
         clear hK K
         (try simp only [Act.put, List.setIfInBounds_toArray, List.set_cons_succ, List.set_cons_zero])
         have nb := hp_new w7 (.cells #[.int .u8 0, .int .u16 0, .int .u32 0, .int .u16 0, .int .u16 0, .int .u16 0, .int .u16 0, .int .u16 0] 61) rfl
         have n0 := cl_of nb 0; have n1 := cl_of nb 1; have n2 := cl_of nb 2; have n3 := cl_of nb 3; have n4 := cl_of nb 4; have n5 := cl_of nb 5; have n6 := cl_of nb 6; have n7 := cl_of nb 7; have nz := fz_of nb
         have hS7 := gb_kb hK7 (.inr ⟨HXB.out, HM.out.2.2⟩) (gb_below hB5 h8)
         refine wpAnyH_only (i := 9) (by kernel_rfl) rfl (by rfl) (fun K hK => ?_)
         go_simp
         refine hK.out _ _ (by exact gb_below (bnew _ _) hS7) (fun hHeld => ?_)
         clear hK K
         (try simp only [Act.put, List.setIfInBounds_toArray, List.set_cons_succ, List.set_cons_zero])
         refine wpAnyH_now (i := 10) (v := ?v106) rfl (by kernel_rfl) (by kernel_rfl) (by kernel_rfl) (fun _ _ _ h => h) (by rfl) ?h106 (by assumption) ?_
         case h106 => ((intro w hSw; (try dsimp only at hSw); go_simp); try with_reducible rfl)
         (try simp only [Act.put, List.setIfInBounds_toArray, List.set_cons_succ, List.set_cons_zero])
         refine wpAnyH_now (i := 11) (v := ?v107) rfl (by kernel_rfl) (by kernel_rfl) (by kernel_rfl) (fun _ _ _ h => h) (by rfl) ?h107 (by assumption) ?_
         case h107 => ((intro w hSw; (try dsimp only at hSw); go_simp); try with_reducible rfl)
         (try simp only [Act.put, List.setIfInBounds_toArray, List.set_cons_succ, List.set_cons_zero])
         refine wpAnyH_done (by kernel_rfl) ?_ _
         refine NoPanic.normal ?_
         obtain ⟨nbv, hnb⟩ : ∃ k, w7.heap.size = k := ⟨_, rfl⟩
         obtain ⟨v, hv⟩ : ∃ v, Value.slice ao ln cp = v := ⟨_, rfl⟩
         rw [hnb, hv]
         rw [hv] at hrow
         exact ⟨rfl, nbv, v, rfl, by exact ⟨hp_new _ _ hnb.symm, gb_below (bnew _ _) hS7, ownsRow_weak (row_below hrow (bnew _ _)) (Nat.zero_le _), bal hT7.j.dev.below _⟩⟩
       · go_simp
         refine hK.out _ _ (by exact gb_below (bnew _ _) hHeld) (fun hHeld => ?_)
         clear hK K
         (try simp only [Act.put, List.setIfInBounds_toArray, List.set_cons_succ, List.set_cons_zero])
         have nb0 := hp_new w5 (.cells #[.int .u8 0, .int .u16 0, .int .u32 0, .int .u16 0, .int .u16 0, .int .u16 0, .int .u16 0, .int .u16 0] 61) rfl
         refine wpAnyH_only (i := 3) (by kernel_rfl) rfl (by rfl) (fun K hK => ?_)
         have hT5 := (HT8.out.of (bt (Below.refl _ w8).drew hB5)).take (bnew w5 (.cells #[.int .u8 0, .int .u16 0, .int .u32 0, .int .u16 0, .int .u16 0, .int .u16 0, .int .u16 0, .int .u16 0] 61))
         go_simp
         refine (HCUT.out _ _ hT5).mono ?_
         rintro e w7 ⟨v, rfl, hrow, hT7, hK7⟩
         obtain ⟨ao, ln, cp, rfl⟩ := row_slice hrow
         refine hK.out _ _ (by exact gb_kb hK7 (.inr ⟨.inl HXB.out, HM.out.2.2⟩) hHeld) (fun hHeld => ?_)
         clear hK K
         (try simp only [Act.put, List.setIfInBounds_toArray, List.set_cons_succ, List.set_cons_zero])
         have hmx := HT8.out.t.mlt
         have h58 := hB5.size
         have nb := (hK7 w5.heap.size (.inr ⟨.inr ⟨Nat.le_refl _, by simp⟩, Nat.ne_of_gt (Nat.lt_of_lt_of_le hmx h58)⟩)).trans nb0
         have n0 := cl_of nb 0; have n1 := cl_of nb 1; have n2 := cl_of nb 2; have n3 := cl_of nb 3; have n4 := cl_of nb 4; have n5 := cl_of nb 5; have n6 := cl_of nb 6; have n7 := cl_of nb 7; have nz := fz_of nb
         refine wpAnyH_now (i := 4) (v := ?v108) rfl (by kernel_rfl) (by kernel_rfl) (by kernel_rfl) (fun _ _ _ h => h) (by rfl) ?h108 (by assumption) ?_
         case h108 => ((intro w hSw; (try dsimp only at hSw); go_simp); try with_reducible rfl)
         (try simp only [Act.put, List.setIfInBounds_toArray, List.set_cons_succ, List.set_cons_zero])
         refine wpAnyH_now (i := 5) (v := ?v109) rfl (by kernel_rfl) (by kernel_rfl) (by kernel_rfl) (fun _ _ _ h => h) (by rfl) ?h109 (by assumption) ?_
         case h109 => ((intro w hSw; (try dsimp only at hSw); go_simp); try with_reducible rfl)
         (try simp only [Act.put, List.setIfInBounds_toArray, List.set_cons_succ, List.set_cons_zero])
         refine wpAnyH_now (i := 6) (v := ?v110) rfl (by kernel_rfl) (by kernel_rfl) (by kernel_rfl) (fun _ _ _ h => h) (by rfl) ?h110 (by assumption) ?_
         case h110 => ((intro w hSw; (try dsimp only at hSw); go_simp); try with_reducible rfl)
         (try simp only [Act.put, List.setIfInBounds_toArray, List.set_cons_succ, List.set_cons_zero])
         refine wpAnyH_now (i := 7) (v := ?v111) rfl (by kernel_rfl) (by kernel_rfl) (by kernel_rfl) (fun _ _ _ h => h) (by rfl) ?h111 (by assumption) ?_
         case h111 => ((intro w hSw; (try dsimp only at hSw); go_simp); try with_reducible rfl)
         (try simp only [Act.put, List.setIfInBounds_toArray, List.set_cons_succ, List.set_cons_zero])
         have hS5 := gb_below hB5 h8
         have hS7 := gb_kb hK7 (.inr ⟨.inl HXB.out, HM.out.2.2⟩) (gb_below (bnew w5 (.cells #[.int .u8 0, .int .u16 0, .int .u32 0, .int .u16 0, .int .u16 0, .int .u16 0, .int .u16 0, .int .u16 0] 61)) hS5)
         refine wpAnyH_only (i := 9) (by kernel_rfl) rfl (by rfl) (fun K hK => ?_)
         go_simp
         refine hK.out _ _ (by exact gb_sets (A := w5) hS5 hS7) (fun hHeld => ?_)
         clear hK K
         (try simp only [Act.put, List.setIfInBounds_toArray, List.set_cons_succ, List.set_cons_zero])
         refine wpAnyH_now (i := 10) (v := ?v112) rfl (by kernel_rfl) (by kernel_rfl) (by kernel_rfl) (fun _ _ _ h => h) (by rfl) ?h112 (by assumption) ?_
         case h112 => ((intro w hSw; (try dsimp only at hSw); go_simp); try with_reducible rfl)
         (try simp only [Act.put, List.setIfInBounds_toArray, List.set_cons_succ, List.set_cons_zero])
         refine wpAnyH_now (i := 11) (v := ?v113) rfl (by kernel_rfl) (by kernel_rfl) (by kernel_rfl) (fun _ _ _ h => h) (by rfl) ?h113 (by assumption) ?_
         case h113 => ((intro w hSw; (try dsimp only at hSw); go_simp); try with_reducible rfl)
         (try simp only [Act.put, List.setIfInBounds_toArray, List.set_cons_succ, List.set_cons_zero])
         refine wpAnyH_done (by kernel_rfl) ?_ _
         refine NoPanic.normal ?_
         have hr0 : w5.heap.size < (w5.alloc (.cells #[.int .u8 0, .int .u16 0, .int .u32 0, .int .u16 0, .int .u16 0, .int .u16 0, .int .u16 0, .int .u16 0] 61)).heap.size := by simp
         have hwb := hT7.j.dev.below
         have hw5 : w.heap.size ≤ w5.heap.size := Nat.le_trans HT8.out.j.dev.below.size h58
         obtain ⟨nbv, hnb⟩ : ∃ k, w5.heap.size = k := ⟨_, rfl⟩
         obtain ⟨v, hv⟩ : ∃ v, Value.slice ao ln cp = v := ⟨_, rfl⟩
         rw [hnb, hv]
         rw [hv] at hrow
         exact ⟨rfl, nbv, v, rfl, by (rw [hnb] at nb hr0 hw5; exact ⟨put8_here (x := Ino.zero) nb ⟨1, 0, 128, 7, 0, 0, 0, 0⟩, gb_sets' hnb hS5 hS7, ownsRow_weak (row_sets hrow hr0) (Nat.zero_le _), below_sets hwb hw5⟩)⟩
     · go_simp
       refine hK.out _ _ (by exact gb_below (bnew _ _) hHeld) (fun hHeld => ?_)
       clear hK K
       (try simp only [Act.put, List.setIfInBounds_toArray, List.set_cons_succ, List.set_cons_zero])
       have nb0 := hp_newd w8 (.cells #[.int .u8 0, .int .u16 0, .int .u32 0, .int .u16 0, .int .u16 0, .int .u16 0, .int .u16 0, .int .u16 0] 61)
       refine wpAnyH_only (i := 2) (by kernel_rfl) rfl (by rfl) (fun K hK => ?_)
       go_simp
       refine (HTWO.out _).mono ?_
       rintro e w5 ⟨rfl, hB5⟩
       refine hK.out _ _ (by exact gb_below hB5 hHeld) (fun hHeld => ?_)
       clear hK K
       (try simp only [Act.put, List.setIfInBounds_toArray, List.set_cons_succ, List.set_cons_zero])
       have nb1 := bblk hB5 nb0
       refine wpAnyH_only (i := 3) (by kernel_rfl) rfl (by rfl) (fun K hK => ?_)
       have hT5 := ((HT8.out.take (bnew w8 (.cells #[.int .u8 0, .int .u16 0, .int .u32 0, .int .u16 0, .int .u16 0, .int .u16 0, .int .u16 0, .int .u16 0] 61))).of (Below.refl _ _).drew).of hB5
       go_simp
       refine (HCUT.out _ _ hT5).mono ?_
       rintro e w7 ⟨v, rfl, hrow, hT7, hK7⟩
       obtain ⟨ao, ln, cp, rfl⟩ := row_slice hrow
       refine hK.out _ _ (by exact gb_kb hK7 (.inr ⟨.inl HXB.out, HM.out.2.2⟩) hHeld) (fun hHeld => ?_)
       clear hK K
       (try simp only [Act.put, List.setIfInBounds_toArray, List.set_cons_succ, List.set_cons_zero])
       have hmx := HT8.out.t.mlt
       have nb := (hK7 w8.heap.size (.inr ⟨.inr ⟨Nat.le_refl _, by simp⟩, Nat.ne_of_gt hmx⟩)).trans nb1
       have n0 := cl_of nb 0; have n1 := cl_of nb 1; have n2 := cl_of nb 2; have n3 := cl_of nb 3; have n4 := cl_of nb 4; have n5 := cl_of nb 5; have n6 := cl_of nb 6; have n7 := cl_of nb 7; have nz := fz_of nb
       refine wpAnyH_now (i := 4) (v := ?v114) rfl (by kernel_rfl) (by kernel_rfl) (by kernel_rfl) (fun _ _ _ h => h) (by rfl) ?h114 (by assumption) ?_
       case h114 => ((intro w hSw; (try dsimp only at hSw); go_simp); try with_reducible rfl)
       (try simp only [Act.put, List.setIfInBounds_toArray, List.set_cons_succ, List.set_cons_zero])
       refine wpAnyH_now (i := 5) (v := ?v115) rfl (by kernel_rfl) (by kernel_rfl) (by kernel_rfl) (fun _ _ _ h => h) (by rfl) ?h115 (by assumption) ?_
       case h115 => ((intro w hSw; (try dsimp only at hSw); go_simp); try with_reducible rfl)
       (try simp only [Act.put, List.setIfInBounds_toArray, List.set_cons_succ, List.set_cons_zero])
       refine wpAnyH_now (i := 6) (v := ?v116) rfl (by kernel_rfl) (by kernel_rfl) (by kernel_rfl) (fun _ _ _ h => h) (by rfl) ?h116 (by assumption) ?_
       case h116 => ((intro w hSw; (try dsimp only at hSw); go_simp); try with_reducible rfl)
       (try simp only [Act.put, List.setIfInBounds_toArray, List.set_cons_succ, List.set_cons_zero])
       refine wpAnyH_now (i := 7) (v := ?v117) rfl (by kernel_rfl) (by kernel_rfl) (by kernel_rfl) (fun _ _ _ h => h) (by rfl) ?h117 (by assumption) ?_
       case h117 => ((intro w hSw; (try dsimp only at hSw); go_simp); try with_reducible rfl)
       (try simp only [Act.put, List.setIfInBounds_toArray, List.set_cons_succ, List.set_cons_zero])
       have hS7 := gb_kb hK7 (.inr ⟨.inl HXB.out, HM.out.2.2⟩) (gb_below hB5 (gb_below (bnew w8 (.cells #[.int .u8 0, .int .u16 0, .int .u32 0, .int .u16 0, .int .u16 0, .int .u16 0, .int .u16 0, .int .u16 0] 61)).drew h8))
       refine wpAnyH_only (i := 9) (by kernel_rfl) rfl (by rfl) (fun K hK => ?_)
       go_simp
       refine hK.out _ _ (by exact gb_sets (A := w8) h8 hS7) (fun hHeld => ?_)
       clear hK K
       (try simp only [Act.put, List.setIfInBounds_toArray, List.set_cons_succ, List.set_cons_zero])
       refine wpAnyH_now (i := 10) (v := ?v118) rfl (by kernel_rfl) (by kernel_rfl) (by kernel_rfl) (fun _ _ _ h => h) (by rfl) ?h118 (by assumption) ?_
       case h118 => ((intro w hSw; (try dsimp only at hSw); go_simp); try with_reducible rfl)
       (try simp only [Act.put, List.setIfInBounds_toArray, List.set_cons_succ, List.set_cons_zero])
       refine wpAnyH_now (i := 11) (v := ?v119) rfl (by kernel_rfl) (by kernel_rfl) (by kernel_rfl) (fun _ _ _ h => h) (by rfl) ?h119 (by assumption) ?_
       case h119 => ((intro w hSw; (try dsimp only at hSw); go_simp); try with_reducible rfl)
       (try simp only [Act.put, List.setIfInBounds_toArray, List.set_cons_succ, List.set_cons_zero])
       refine wpAnyH_done (by kernel_rfl) ?_ _
       refine NoPanic.normal ?_
       have hr0 : w8.heap.size < w5.heap.size := blk_lt nb1
       have hwb := hT7.j.dev.below
       have hw5 : w.heap.size ≤ w8.heap.size := HT8.out.j.dev.below.size
       obtain ⟨nbv, hnb⟩ : ∃ k, w8.heap.size = k := ⟨_, rfl⟩
       obtain ⟨v, hv⟩ : ∃ v, Value.slice ao ln cp = v := ⟨_, rfl⟩
       rw [hnb, hv]
       rw [hv] at hrow
       exact ⟨rfl, nbv, v, rfl, by (rw [hnb] at nb hr0 hw5; exact ⟨put8_here (x := Ino.zero) nb ⟨1, 0, 128, 7, 0, 0, 0, 0⟩, gb_sets' hnb h8 hS7, ownsRow_weak (row_sets hrow hr0) (Nat.zero_le _), below_sets hwb hw5⟩)⟩
    case hc =>
     rintro nx v w9 ⟨hx, h9, hrow, hB9⟩
     obtain ⟨ao, ln, cp, rfl⟩ := row_slice hrow
     have hnil := fun (W : World) => bget_nil (gv 8 16 40) ⟨8, 16, 40, rfl⟩ twoI 1 (by decide) W
     rw [show ((1 : Nat) : Int) = 1 from rfl] at hnil
     unfold gv at hnil
     unfold ic twoI at hnil
     have HNIL := Lib.hid hnil
     have HROW := Lib.hid hrow
     have HX := Lib.hid hx
     have HB9 := Lib.hid hB9
     clear hnil hrow hx hB9 HCUT HT8 h8
     go_wp2_with fail
     first | (go_region_held3 (fun Wq => Wq.cell? ⟨bg, 0, none⟩ = some (.int .i64 8) ∧ Wq.cell? ⟨bg, 1, none⟩ = some (.int .i64 16) ∧ Wq.cell? ⟨bg, 2, none⟩ = some (.int .i64 40)) (first | exact h9 | assumption | exact gb_below (by assumption) (by assumption)) (first | (go_at_call 54; ((with_reducible refine (HTWO.out _).mono ?_); rintro e w10 ⟨rfl, hB10⟩)) | (go_at_call 32; ((with_reducible refine (HNIL.out _).mono ?_); rintro e w11 ⟨rfl, hB11⟩)))) | fail
     first | (rename_i hK; refine hK _ _ ?_; clear hK) | (rename_i hK _; refine hK _ _ ?_; clear hK) | (rename_i hK _ _; refine hK _ _ ?_; clear hK)
     have hB := bt (bt (Below.refl _ w9).drew hB10) hB11
     have hx11 := bblk hB HX.out
     have hr11 := row_below HROW.out hB
     unfold ic at hx11
     have x3 := cl_of hx11 3
     have x4 := cl_of hx11 4
     have x5 := cl_of hx11 5
     have x6 := cl_of hx11 6
     have he : ∀ W : World, (Op.equalIn 10000 59 (.agg #[.int .u16 7, .int .u16 0, .int .u16 0, .int .u16 0]) (.agg #[.int .u16 7, .int .u16 0, .int .u16 0, .int .u16 0])).run Tryz.prog W = .ok true W := fun W => eq_arr 9998 7 0 0 0 7 0 0 0 W
     have HBF := Lib.hid (bt HB9.out hB)
     have HR11 := Lib.hid hr11
     clear hB hr11 hx11 hB10 hB11 h9 HNIL
     go_wp2_with fail
     have hs1 : SlI .u16 (w11.alloc (.cells #[.int .u16 9] 57)) (.slice ao ln cp) [9] := sli_row (row_below HR11.out (bnew _ _)) (fun z hz => by rw [List.mem_singleton] at hz; rw [hz]; decide)
     have hs2 : SlI .u16 (w11.alloc (.cells #[.int .u16 9] 57)) (.slice (some ⟨w11.heap.size, 0, none⟩) 1 1) [9] := ⟨⟨_, _, rfl, fun _ => ⟨_, 0, rfl, by simp, fun j hj => by
       have : j = 0 := by simpa using hj
       subst this
       exact cl_of (hp_new w11 _ rfl) 0⟩⟩, fun z hz => by rw [List.mem_singleton] at hz; rw [hz]; decide⟩
     have hsm := same7_any hs1 hs2 (by decide) (by decide)
     have HSM := Lib.hid hsm
     clear hs1 hs2 hsm
     refine HSM.out.mono ?_
     rintro e w12 ⟨rfl, hB12⟩
     have HBZ := Lib.hid (bt (bal HBF.out (.cells #[.int .u16 9] 57)) hB12)
     clear hB12
     go_wp2_with fail
     go_ret
     exact ⟨rfl, HBZ.out⟩
end
end Go.Proofs.YtjjphcnoegaimaaGreat

namespace Go.Proofs.YtjjphcnoegaimaaGreat
open Go.RowKit Go.Shelf Go.Maps
set_option linter.unusedSimpArgs false
set_option maxRecDepth 20000
set_option linter.unusedVariables false

section
variable {w W W1 W' : World} {X : Nat → Prop} {p jb tb m bg bx bw : Nat} {M : Wl} {x : Ino} {want : List Int}
def gvc : Array Value := #[.int .i64 8, .int .i64 16, .int .i64 40]
/-- A transaction, a geometry and an inode in boxes. -/
structure RmI9 (w : World) (X : Nat → Prop) (p jb tb m bg bx : Nat) (x : Ino) (M : Wl) (W : World) : Prop where
  tj : TJ w X p jb 63 0 1 40 0 0 (newS 63) tb m M false W
  ig : W.heap[bg]? = some (.cells gvc 56 (0, 0))
  ix : W.heap[bx]? = some (.cells (ic x) 61 (0, 0))
  st : St x M 62 16
  n : x.n = 16
structure RmX9 (w : World) (X : Nat → Prop) (jb tb m bg bx : Nat) : Prop where
  xg : X bg
  xx : X bx
  gg : w.heap.size ≤ bg
  gx : w.heap.size ≤ bx
  gj : bg ≠ jb ∧ bg ≠ tb ∧ bg ≠ m
  xj : bx ≠ jb ∧ bx ≠ tb ∧ bx ≠ m
  ne : bg ≠ bx
theorem RmI9.of (h : RmI9 w X p jb tb m bg bx x M W) (hB : Below W.heap.size W W') : RmI9 w X p jb tb m bg bx x M W' := ⟨h.tj.of hB, bblk hB h.ig, bblk hB h.ix, h.st, h.n⟩
theorem TJ.put8 {Y : Nat → Prop} {w0 : World} {N B fr n g r : Nat} {s : DS} {dn : Bool} (h : TJ w0 Y p jb N B fr n g r s tb m M dn W) {b : Nat} (hb : Y b) (hw : w0.heap.size ≤ b) (h1 : b ≠ jb) (h2 : b ≠ tb) (h3 : b ≠ m) (y : Ino) : TJ w0 Y p jb N B fr n g r s tb m M dn (put8 W b y) :=
  (((((((h.setC hb hw h1 h2 h3 0 _).setC hb hw h1 h2 h3 1 _).setC hb hw h1 h2 h3 2 _).setC hb hw h1 h2 h3 3 _).setC hb hw h1 h2 h3 4 _).setC hb hw h1 h2 h3 5 _).setC hb hw h1 h2 h3 6 _).setC hb hw h1 h2 h3 7 _
/-- Behind a Set: its answer is laid in the inode's box. -/
theorem RmI9.step (h : RmI9 w X p jb tb m bg bx x M W) (hx : RmX9 w X jb tb m bg bx) {k : Nat} {v : Int} (h0 : 0 ≤ v) (h16 : v < 16) (hT : TJ w X p jb 63 0 1 40 0 0 (newS 63) tb m (stM x M 62 k v) false W1) (hK : Kb w (fun k => X k ∧ k ≠ m) W W1) :
    RmI9 w X p jb tb m bg bx (stX x k v) (stM x M 62 k v) (put8 W1 bx (stX x k v)) := by
  have hg1 := (hK bg (.inr ⟨hx.xg, hx.gj.2.2⟩)).trans h.ig
  have hx1 := (hK bx (.inr ⟨hx.xx, hx.xj.2.2⟩)).trans h.ix
  exact ⟨hT.put8 hx.xx hx.gx hx.xj.1 hx.xj.2.1 hx.xj.2.2 _, (put8_other _ hx.ne _).trans hg1, put8_here hx1 _, h.st.set k h0 (by omega) (by omega), by rw [stX_n]; exact h.n⟩
/-- And the array of what was wanted. -/
structure RmK (w : World) (X : Nat → Prop) (p jb tb m bg bx bw : Nat) (x : Ino) (M : Wl) (want : List Int) (W : World) : Prop where
  i : RmI9 w X p jb tb m bg bx x M W
  iw : W.heap[bw]? = some (.cells (u16s want).toArray 90 (0, 0))
  len : want.length = 36
  pg : ∀ q, q < 36 → pg x M 62 q = want.getD q 0
structure RmW (w : World) (X : Nat → Prop) (jb tb m bg bx bw : Nat) : Prop where
  k : RmX9 w X jb tb m bg bx
  xw : X bw
  gw : w.heap.size ≤ bw
  wj : bw ≠ jb ∧ bw ≠ tb ∧ bw ≠ m
  wg : bw ≠ bg
  wx : bw ≠ bx
theorem want_set (zs : List Int) (k : Nat) (v : Int) : (u16s zs).toArray.setIfInBounds k (.int .u16 v) = (u16s (zs.set k v)).toArray := by
  apply Array.ext'
  simp [u16s, List.map_set]
theorem RmK.of (h : RmK w X p jb tb m bg bx bw x M want W) (hB : Below W.heap.size W W') : RmK w X p jb tb m bg bx bw x M want W' := ⟨h.i.of hB, bblk hB h.iw, h.len, h.pg⟩
theorem RmK.step (h : RmK w X p jb tb m bg bx bw x M want W) (hx : RmW w X jb tb m bg bx bw) {k : Nat} (hk : k < 36) {v : Int} (h0 : 0 ≤ v) (h16 : v < 16) (hT : TJ w X p jb 63 0 1 40 0 0 (newS 63) tb m (stM x M 62 k v) false W1) (hK : Kb w (fun k => X k ∧ k ≠ m) W W1) :
    RmK w X p jb tb m bg bx bw (stX x k v) (stM x M 62 k v) (want.set k v) ((put8 W1 bx (stX x k v)).setCell ⟨bw, k, none⟩ (.int .u16 v)) := by
  have h1 := h.i.step hx.k h0 h16 hT hK
  have hw1 := (put8_other W1 hx.wx (stX x k v)).trans ((hK bw (.inr ⟨hx.xw, hx.wj.2.2⟩)).trans h.iw)
  refine ⟨⟨h1.tj.setC hx.xw hx.gw hx.wj.1 hx.wj.2.1 hx.wj.2.2 k _, (kb_set k _ bg hx.wg.symm).trans h1.ig, (kb_set k _ bx hx.wx.symm).trans h1.ix, h1.st, h1.n⟩, ?_, by rw [List.length_set]; exact h.len, fun q hq => ?_⟩
  · exact (blk_here hw1 k (.int .u16 v)).trans (by rw [want_set])
  · rw [h.i.st.pg_set hk h0 (by omega) q hq, h.pg q hq]
    simp only [List.getD_eq_getElem?_getD, List.getElem?_set]
    have := h.len
    by_cases e : q = k
    · subst e
      rw [if_pos rfl, if_pos rfl, if_pos (by omega)]
      rfl
    · rw [if_neg e, if_neg (fun e2 => e e2.symm)]
theorem want_cell (h : RmK w X p jb tb m bg bx bw x M want W) {k : Nat} (hk : k < 36) : W.cell? ⟨bw, k, none⟩ = some (.int .u16 (want.getD k 0)) := by
  rw [cl_of h.iw, List.getElem?_toArray, u16s_get want (by rw [h.len]; exact hk)]
theorem zero_want (w : World) : (zeroValue 90).run Tryz.prog w = .ok (.agg (u16s (List.replicate 36 0)).toArray) w := by kernel_rfl

set_option maxHeartbeats 8000000 in
theorem keeps_walk {w : World} (v : Value) (ls : List St9) (hl : Sl9 w v ls) : Calls Tryz.prog 6 #[v] w fun e w' => e = .returned (.bool true) ∧ Below w.heap.size w w' := by
  have hlong := long9_any hl
  obtain ⟨⟨ao, cap, rfl, hcell⟩, hwf⟩ := hl
  have HC := Lib.hid hcell
  have HW := Lib.hid hwf
  have HLG := Lib.hid hlong
  clear hcell hwf hlong
  go_enter Tryz.func6, Tryz.ntmps6
  go_wp2_with fail
  refine HLG.out.mono ?_
  rintro e w1 ⟨lb, rfl, hlb, rfl⟩
  cases lb with
  | true =>
    go_wp2_with fail
    refine (alive09_any _).mono ?_
    rintro e w2 ⟨rfl, hB2⟩
    go_wp2_with fail
    go_ret
    exact ⟨rfl, hB2⟩
  | false =>
    have hl80 := hlb rfl
    have HL := Lib.hid hl80
    clear hlb hl80 HLG
    go_wp2_with fail
    refine (fresh_any (w0 := w) (Below.refl _ w)).mono ?_
    rintro e w2 ⟨tb, rfl, X, p, jb, m, hT, hX, hjb, htb, hm⟩
    unfold gv ic freshI
    have HT := Lib.hid hT
    clear hT
    go_wp2_with fail
    obtain ⟨W3, hW3⟩ : ∃ W3, ((w2.alloc (.cells #[.int .i64 8, .int .i64 16, .int .i64 40] 56)).alloc (.cells #[.int .u8 1, .int .u16 0, .int .u32 2304, .int .u16 0, .int .u16 0, .int .u16 0, .int .u16 0, .int .u16 16] 61)).alloc (.cells #[.int .u16 0, .int .u16 0, .int .u16 0, .int .u16 0, .int .u16 0, .int .u16 0, .int .u16 0, .int .u16 0, .int .u16 0, .int .u16 0, .int .u16 0, .int .u16 0, .int .u16 0, .int .u16 0, .int .u16 0, .int .u16 0, .int .u16 0, .int .u16 0, .int .u16 0, .int .u16 0, .int .u16 0, .int .u16 0, .int .u16 0, .int .u16 0, .int .u16 0, .int .u16 0, .int .u16 0, .int .u16 0, .int .u16 0, .int .u16 0, .int .u16 0, .int .u16 0, .int .u16 0, .int .u16 0, .int .u16 0, .int .u16 0] 90) = W3 := ⟨_, rfl⟩
    rw [hW3]
    have hB3 : Below w2.heap.size w2 W3 := by rw [← hW3]; exact bal (bal (bnew _ _) _) _
    have b1 : W3.heap[w2.heap.size]? = some (.cells gvc 56 (0, 0)) := by rw [← hW3]; exact (hp_old _ _ (by simp; omega)).trans ((hp_old _ _ (by simp)).trans (hp_new _ _ rfl))
    have b2 : W3.heap[w2.heap.size + 1]? = some (.cells (ic freshI) 61 (0, 0)) := by rw [← hW3]; exact (hp_old _ _ (by simp)).trans (hp_new _ _ (by simp))
    have b3 : W3.heap[w2.heap.size + 1 + 1]? = some (.cells (u16s (List.replicate 36 0)).toArray 90 (0, 0)) := by rw [← hW3]; exact hp_new _ _ (by simp)
    have hs3 := blk_lt b3
    have hK0 : RmK w (fun k => X k ∨ w2.heap.size ≤ k ∧ k < W3.heap.size) p jb tb m w2.heap.size (w2.heap.size + 1) (w2.heap.size + 1 + 1) freshI freshM (List.replicate 36 0) W3 := ⟨⟨HT.out.take hB3, b1, b2, fresh_st, rfl⟩, b3, List.length_replicate, fun q hq => by rw [fresh_pg q hq, List.getD_eq_getElem?_getD, List.getElem?_replicate]; split <;> rfl⟩
    have hw := HT.out.j.dev.below.size
    have hj2 := blk_lt HT.out.j.obj
    have ht2 := blk_lt HT.out.t.obj
    have hm2 := HT.out.t.mlt
    obtain ⟨bg, hbg⟩ : ∃ bg, w2.heap.size = bg := ⟨_, rfl⟩
    rw [hbg] at hK0 hs3 hw hj2 ht2 hm2
    simp only [hbg]
    obtain ⟨bx, hbx⟩ : ∃ bx, bg + 1 = bx := ⟨_, rfl⟩
    obtain ⟨bw, hbw⟩ : ∃ bw, bx + 1 = bw := ⟨_, rfl⟩
    rw [hbx, hbw] at hK0 hs3
    simp only [hbx, hbw]
    have hRW : RmW w (fun k => X k ∨ bg ≤ k ∧ k < W3.heap.size) jb tb m bg bx bw := ⟨⟨.inr ⟨by omega, by omega⟩, .inr ⟨by omega, by omega⟩, by omega, by omega, by omega, by omega, by omega⟩, .inr ⟨by omega, by omega⟩, by omega, by omega, by omega, by omega⟩
    have HRW := Lib.hid hRW
    have HK0 := Lib.hid hK0
    clear hW3 hB3 b1 b2 b3 hs3 hK0 hw hj2 ht2 hm2 hbg hbx hbw hRW HT hX hjb htb hm
    generalize (fun k => X k ∨ bg ≤ k ∧ k < W3.heap.size) = X at *
    go_loopw [8, 9, 10, 11, 12, 13, 14, 15] (fun v8 _ _ _ _ _ _ _ wr => ∃ (k : Nat) (x : Ino) (M : Wl) (want : List Int), k ≤ ls.length ∧ v8 = .int .i64 k ∧ RmK w X p jb tb m bg bx bw x M want wr) (fun v8 _ _ _ _ _ _ _ _ => ls.length - (intOf v8).toNat)
    case atStart => exact ⟨0, _, _, _, Nat.zero_le _, rfl, HK0.out⟩
    case round =>
      obtain ⟨k, x, M, want, hk, rfl, hR⟩ := hrel
      by_cases hlt : k < ls.length
      · obtain ⟨b, off, rfl, hb, hc⟩ := HC.out (by omega)
        obtain ⟨c0, c1, c2, c3⟩ := hc k hlt
        have hBw := hR.i.tj.j.dev.below
        have d1 := (hBw.cell (p := ⟨b, off + k * 4 + 1, none⟩) hb).trans c1
        have d2 := (hBw.cell (p := ⟨b, off + k * 4 + 2, none⟩) hb).trans c2
        obtain ⟨-, -, hbwf, -⟩ := HW.out (ls.getD k st90) (by rw [List.getD_eq_getElem?_getD, List.getElem?_eq_getElem hlt]; exact List.getElem_mem hlt)
        generalize ls.getD k st90 = sp at *
        obtain ⟨kk, hkk⟩ : ∃ kk : Nat, IntKind.u64.wrap sp.page % 36 = (kk : Int) := ⟨(IntKind.u64.wrap sp.page % 36).toNat, by omega⟩
        have hkk36 : kk < 36 := by omega
        have hkt : (IntKind.u64.wrap sp.page).tmod 36 = (kk : Int) := by rw [Int.tmod_eq_emod_of_nonneg (by rw [IntKind.wrap_u64]; omega)]; exact hkk
        have hw2 : IntKind.i64.wrap (kk : Int) = (kk : Int) := i64_sm (by omega) (by omega)
        have hw3 : wrap64 (kk : Int) = (kk : Int) := by unfold wrap64; omega
        obtain ⟨v, hv⟩ : ∃ v : Int, sp.b % 16 = v := ⟨_, rfl⟩
        have hvt : sp.b.tmod 16 = v := by rw [Int.tmod_eq_emod_of_nonneg (wfu16 hbwf).1]; exact hv
        have hv0 : 0 ≤ v := by omega
        have hv16 : v < 16 := by omega
        have hset := bset_any hR.i.tj geoN_small hR.i.st (by rw [hR.i.n]; rfl) hv0 (by omega) (by omega) kk hkk36
        obtain ⟨y, hy⟩ : ∃ y, stX x kk v = y := ⟨_, rfl⟩
        rw [hy] at hset
        unfold gv ic at hset
        have hgi := hR.i.ig
        have hxi := hR.i.ix
        unfold gvc at hgi
        unfold ic at hxi
        have g0 := cl_of hgi 0
        have g1 := cl_of hgi 1
        have g2 := cl_of hgi 2
        have q0 := cl_of hxi 0
        have q1 := cl_of hxi 1
        have q2 := cl_of hxi 2
        have q3 := cl_of hxi 3
        have q4 := cl_of hxi 4
        have q5 := cl_of hxi 5
        have q6 := cl_of hxi 6
        have q7 := cl_of hxi 7
        have HSET := Lib.hid hset
        have HR := Lib.hid hR
        have HY := Lib.hid hy
        have HV := Lib.hid hv16
        clear hset hR hgi hxi hy hc c0 c1 c2 c3 hBw hbwf
        go_wp2_with fail
        refine HSET.out.mono ?_
        rintro e w4 ⟨rfl, hT4, hK4⟩
        have hx4 := (hK4 bx (.inr ⟨HRW.out.k.xx, HRW.out.k.xj.2.2⟩)).trans HR.out.i.ix
        have hw4 := (hK4 bw (.inr ⟨HRW.out.xw, HRW.out.wj.2.2⟩)).trans HR.out.iw
        have hx5 := blk_old hx4 (.cells #[.int .u8 y.k, .int .u16 y.l, .int .u32 y.s, .int .u16 y.d0, .int .u16 y.d1, .int .u16 y.d2, .int .u16 y.d3, .int .u16 y.n] 61)
        have hw5 := blk_old hw4 (.cells #[.int .u8 y.k, .int .u16 y.l, .int .u32 y.s, .int .u16 y.d0, .int .u16 y.d1, .int .u16 y.d2, .int .u16 y.d3, .int .u16 y.n] 61)
        have hxw : bx < w4.heap.size := blk_lt hx4
        have hww : bw < w4.heap.size := blk_lt hw4
        have hst := (HR.out.step HRW.out hkk36 hv0 HV.out hT4 hK4).of (bnew _ (.cells #[.int .u8 y.k, .int .u16 y.l, .int .u32 y.s, .int .u16 y.d0, .int .u16 y.d1, .int .u16 y.d2, .int .u16 y.d3, .int .u16 y.n] 61))
        rw [HY.out] at hst
        have hl5 := HR.out.len
        have b5 := hp_new w4 (.cells #[.int .u8 y.k, .int .u16 y.l, .int .u32 y.s, .int .u16 y.d0, .int .u16 y.d1, .int .u16 y.d2, .int .u16 y.d3, .int .u16 y.n] 61) rfl
        have n0 := cl_of b5 0
        have n1 := cl_of b5 1
        have n2 := cl_of b5 2
        have n3 := cl_of b5 3
        have n4 := cl_of b5 4
        have n5 := cl_of b5 5
        have n6 := cl_of b5 6
        have n7 := cl_of b5 7
        unfold ic at hx4
        have s0 := cl_of hx4 0
        have s1 := cl_of hx4 1
        have s2 := cl_of hx4 2
        have s3 := cl_of hx4 3
        have s4 := cl_of hx4 4
        have s5 := cl_of hx4 5
        have s6 := cl_of hx4 6
        have s7 := cl_of hx4 7
        have sz := fz_of hx4
        have ww : ∃ u, w4.cell? ⟨bw, kk, none⟩ = some u := ⟨_, by rw [cl_of hw4, List.getElem?_toArray, u16s_get want (by omega)]⟩
        obtain ⟨uw, ww⟩ := ww
        have wz := fz_of hw4 kk
        have hnx : bx ≠ bw := HRW.out.wx.symm
        have hnw : bw ≠ bx := HRW.out.wx
        have HST := Lib.hid hst
        unfold put8 at HST
        clear hT4 hK4 hx4 hw4 hx5 hw5 hst b5 HSET g0 g1 g2 q0 q1 q2 q3 q4 q5 q6 q7 d1 d2 hl5
        go_wp2_with fail
        obtain ⟨W6, hW6⟩ : ∃ W6, ((((((((((w4.setCell ⟨bx, 0, none⟩ (.int .u8 y.k)).setCell ⟨bx, 1, none⟩ (.int .u16 y.l)).setCell ⟨bx, 2, none⟩ (.int .u32 y.s)).setCell ⟨bx, 3, none⟩ (.int .u16 y.d0)).setCell ⟨bx, 4, none⟩ (.int .u16 y.d1)).setCell ⟨bx, 5, none⟩ (.int .u16 y.d2)).setCell ⟨bx, 6, none⟩ (.int .u16 y.d3)).setCell ⟨bx, 7, none⟩ (.int .u16 y.n)).setCell ⟨bw, kk, none⟩ (.int .u16 v)).alloc (.cells #[.int .u8 y.k, .int .u16 y.l, .int .u32 y.s, .int .u16 y.d0, .int .u16 y.d1, .int .u16 y.d2, .int .u16 y.d3, .int .u16 y.n] 61)) = W6 := ⟨_, rfl⟩
        rw [hW6] at HST
        rw [hW6]
        clear hW6 n0 n1 n2 n3 n4 n5 n6 n7 s0 s1 s2 s3 s4 s5 s6 s7 sz ww wz uw hxw hww
        generalize stM x M 62 kk v = M2 at *
        generalize want.set kk v = want2 at *
        go_loopw [13, 14, 15] (fun v13 _ _ wr2 => ∃ q : Nat, q ≤ 36 ∧ v13 = .int .i64 q ∧ RmK w X p jb tb m bg bx bw y M2 want2 wr2) (fun v13 _ _ _ => 36 - (intOf v13).toNat)
        case atStart => exact ⟨0, Nat.zero_le _, rfl, HST.out⟩
        case round =>
          obtain ⟨q, hq, rfl, hR2⟩ := hrel
          by_cases hq36 : q < 36
          · have dq : decide ((q : Int) < 36) = true := decide_eq_true (by omega)
            have hget := bget_any hR2.i.tj geoN_small ⟨mays_small, by decide, hR2.i.st.n.2, hR2.i.st.d⟩ hR2.i.st.wf hR2.i.st.sz (fun _ => by rw [hR2.i.n]; rfl) q hq36
            rw [hR2.pg q hq36] at hget
            unfold gv ic at hget
            have hgi := hR2.i.ig
            have hxi := hR2.i.ix
            unfold gvc at hgi
            unfold ic at hxi
            have g0 := cl_of hgi 0
            have g1 := cl_of hgi 1
            have g2 := cl_of hgi 2
            have q0 := cl_of hxi 0
            have q1 := cl_of hxi 1
            have q2 := cl_of hxi 2
            have q3 := cl_of hxi 3
            have q4 := cl_of hxi 4
            have q5 := cl_of hxi 5
            have q6 := cl_of hxi 6
            have q7 := cl_of hxi 7
            have HG := Lib.hid hget
            have HR2 := Lib.hid hR2
            clear hget hgi hxi hR2
            go_wp2_with fail
            refine HG.out.mono ?_
            rintro e w7 ⟨rfl, hB7⟩
            have h7 := HR2.out.of hB7
            have wc := want_cell h7 hq36
            have H7 := Lib.hid h7
            generalize want2.getD q 0 = z at *
            have ez : (z != z) = false := by simp
            clear h7 hB7 g0 g1 g2 q0 q1 q2 q3 q4 q5 q6 q7
            go_wp2_with fail
            go_roundw
            case rel => exact ⟨q + 1, by omega, by go_num, H7.out⟩
            case measure => simp [intOf]; omega
          · obtain rfl : q = 36 := by omega
            have HR2 := Lib.hid hR2
            clear hR2
            go_wp2_with fail
            have hl80 := HL.out
            have hwk : wrap64 ((k : Int) + 1) = ((k + 1 : Nat) : Int) := by unfold wrap64; omega
            clear hw3 hw2 hkt hvt hkk hv
            go_roundw
            case rel => exact ⟨k + 1, y, M2, want2, by omega, by rw [hwk], HR2.out⟩
            case measure => rw [hwk]; simp [intOf]; omega
      · obtain rfl : k = ls.length := by omega
        have hxi := hR.i.ix
        unfold ic at hxi
        have q7 : wr.cell? ⟨bx, 7, none⟩ = some (.int .u16 16) := by rw [cl_of hxi 7, ← hR.i.n]; rfl
        have HR := Lib.hid hR
        clear hxi hR
        go_wp2_with fail
        refine (alive09_any _).mono ?_
        rintro e w9 ⟨rfl, hB9⟩
        have HB9 := Lib.hid (bt HR.out.i.tj.j.dev.below hB9)
        clear hB9
        go_wp2_with fail
        go_ret
        exact ⟨rfl, HB9.out⟩
end
end Go.Proofs.YtjjphcnoegaimaaGreat
