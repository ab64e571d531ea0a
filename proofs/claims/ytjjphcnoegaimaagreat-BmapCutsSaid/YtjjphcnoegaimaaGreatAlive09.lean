/- lunettelaw09.alive: the chapter's example. -/
import Derived.Test.YtjjphcnoegaimaaGreatLaw09b
import Derived.Test.YtjjphcnoegaimaaGreatGV
namespace Go.Proofs.YtjjphcnoegaimaaGreat
open Go.RowKit Go.Shelf Go.Maps
set_option linter.unusedSimpArgs false
set_option maxRecDepth 20000
set_option linter.unusedVariables false

section
variable {w0 w W W' : World}
/-- A geometry in a box. -/
def GB (bg : Nat) (W : World) : Prop := W.cell? ⟨bg, 0, none⟩ = some (.int .i64 8) ∧ W.cell? ⟨bg, 1, none⟩ = some (.int .i64 16) ∧ W.cell? ⟨bg, 2, none⟩ = some (.int .i64 40)
theorem gb_below {bg : Nat} (hB : Below W.heap.size W W') (h : W.cell? ⟨bg, 0, none⟩ = some (.int .i64 8) ∧ W.cell? ⟨bg, 1, none⟩ = some (.int .i64 16) ∧ W.cell? ⟨bg, 2, none⟩ = some (.int .i64 40)) : W'.cell? ⟨bg, 0, none⟩ = some (.int .i64 8) ∧ W'.cell? ⟨bg, 1, none⟩ = some (.int .i64 16) ∧ W'.cell? ⟨bg, 2, none⟩ = some (.int .i64 40) :=
  ⟨(hB.cell (p := ⟨bg, 0, none⟩) (lt_of_cell h.1)).trans h.1, (hB.cell (p := ⟨bg, 1, none⟩) (lt_of_cell h.1)).trans h.2.1, (hB.cell (p := ⟨bg, 2, none⟩) (lt_of_cell h.1)).trans h.2.2⟩
theorem gb_set {bg : Nat} {A : World} (hA : A.cell? ⟨bg, 0, none⟩ = some (.int .i64 8) ∧ A.cell? ⟨bg, 1, none⟩ = some (.int .i64 16) ∧ A.cell? ⟨bg, 2, none⟩ = some (.int .i64 40)) {o : Nat} {u : Value} (h : W.cell? ⟨bg, 0, none⟩ = some (.int .i64 8) ∧ W.cell? ⟨bg, 1, none⟩ = some (.int .i64 16) ∧ W.cell? ⟨bg, 2, none⟩ = some (.int .i64 40)) :
    (W.setCell ⟨A.heap.size, o, none⟩ u).cell? ⟨bg, 0, none⟩ = some (.int .i64 8) ∧ (W.setCell ⟨A.heap.size, o, none⟩ u).cell? ⟨bg, 1, none⟩ = some (.int .i64 16) ∧ (W.setCell ⟨A.heap.size, o, none⟩ u).cell? ⟨bg, 2, none⟩ = some (.int .i64 40) := by
  have hne : bg ≠ A.heap.size := Nat.ne_of_lt (lt_of_cell hA.1)
  have hk := kb_set (W := W) (b := A.heap.size) o u bg hne
  exact ⟨(World.cell?_of_block hk).trans h.1, (World.cell?_of_block hk).trans h.2.1, (World.cell?_of_block hk).trans h.2.2⟩

theorem row_slice {B : Nat} {e : TypeId} {size : Nat} {v : Value} {k : Nat} {xs : List Value} (h : W.ownsRow B e size v k xs) : ∃ a l c, v = .slice a l c := by
  rcases h.2 with ⟨rfl, _⟩ | ⟨g, cap, cur, rfl, _⟩
  · exact ⟨_, _, _, rfl⟩
  · exact ⟨_, _, _, rfl⟩
theorem gb_kb {bg : Nat} {Y : Nat → Prop} (hK : Kb w0 Y W W') (hb : bg < w0.heap.size ∨ Y bg) (h : W.cell? ⟨bg, 0, none⟩ = some (.int .i64 8) ∧ W.cell? ⟨bg, 1, none⟩ = some (.int .i64 16) ∧ W.cell? ⟨bg, 2, none⟩ = some (.int .i64 40)) : W'.cell? ⟨bg, 0, none⟩ = some (.int .i64 8) ∧ W'.cell? ⟨bg, 1, none⟩ = some (.int .i64 16) ∧ W'.cell? ⟨bg, 2, none⟩ = some (.int .i64 40) :=
  ⟨(hK.cell hb 0).trans h.1, (hK.cell hb 1).trans h.2.1, (hK.cell hb 2).trans h.2.2⟩
theorem row_sets {B b : Nat} {v : Value} {k : Nat} {xs : List Value} {u0 u1 u2 u3 u4 u5 u6 u7 : Value} (h : W.ownsRow B 57 1 v k xs) (hb : b < B) : ((((((((W.setCell ⟨b, 0, none⟩ u0).setCell ⟨b, 1, none⟩ u1).setCell ⟨b, 2, none⟩ u2).setCell ⟨b, 3, none⟩ u3).setCell ⟨b, 4, none⟩ u4).setCell ⟨b, 5, none⟩ u5).setCell ⟨b, 6, none⟩ u6).setCell ⟨b, 7, none⟩ u7).ownsRow B 57 1 v k xs := by
  have one : ∀ (A : World) (o : Nat) (u : Value), A.ownsRow B 57 1 v k xs → (A.setCell ⟨b, o, none⟩ u).ownsRow B 57 1 v k xs := fun A o u hA => ownsRow_blockB hA (fun j e => by
    rcases hA.2 with ⟨e2, _⟩ | ⟨g, c, cur, e2, h0, _⟩
    · rw [e2] at e; cases e
    · rw [e2] at e
      cases e
      have hg : g ≠ b := by omega
      exact kb_set o u g hg)
  exact one _ _ _ (one _ _ _ (one _ _ _ (one _ _ _ (one _ _ _ (one _ _ _ (one _ _ _ (one _ _ _ h)))))))
theorem hp_newd (w : World) (o : Obj) : (w.alloc o).drew.heap[w.heap.size]? = some o := hp_new w o rfl
theorem below_sets {n b : Nat} {A B : World} {u0 u1 u2 u3 u4 u5 u6 u7 : Value} (h : Below n A B) (hb : n ≤ b) : Below n A ((((((((B.setCell ⟨b, 0, none⟩ u0).setCell ⟨b, 1, none⟩ u1).setCell ⟨b, 2, none⟩ u2).setCell ⟨b, 3, none⟩ u3).setCell ⟨b, 4, none⟩ u4).setCell ⟨b, 5, none⟩ u5).setCell ⟨b, 6, none⟩ u6).setCell ⟨b, 7, none⟩ u7) :=
  (((((((h.setCell hb _).setCell hb _).setCell hb _).setCell hb _).setCell hb _).setCell hb _).setCell hb _).setCell hb _
theorem gb_sets {bg : Nat} {A : World} (hA : A.cell? ⟨bg, 0, none⟩ = some (.int .i64 8) ∧ A.cell? ⟨bg, 1, none⟩ = some (.int .i64 16) ∧ A.cell? ⟨bg, 2, none⟩ = some (.int .i64 40)) {u0 u1 u2 u3 u4 u5 u6 u7 : Value} (h : W.cell? ⟨bg, 0, none⟩ = some (.int .i64 8) ∧ W.cell? ⟨bg, 1, none⟩ = some (.int .i64 16) ∧ W.cell? ⟨bg, 2, none⟩ = some (.int .i64 40)) :
    ((((((((W.setCell ⟨A.heap.size, 0, none⟩ u0).setCell ⟨A.heap.size, 1, none⟩ u1).setCell ⟨A.heap.size, 2, none⟩ u2).setCell ⟨A.heap.size, 3, none⟩ u3).setCell ⟨A.heap.size, 4, none⟩ u4).setCell ⟨A.heap.size, 5, none⟩ u5).setCell ⟨A.heap.size, 6, none⟩ u6).setCell ⟨A.heap.size, 7, none⟩ u7).cell? ⟨bg, 0, none⟩ = some (.int .i64 8) ∧ ((((((((W.setCell ⟨A.heap.size, 0, none⟩ u0).setCell ⟨A.heap.size, 1, none⟩ u1).setCell ⟨A.heap.size, 2, none⟩ u2).setCell ⟨A.heap.size, 3, none⟩ u3).setCell ⟨A.heap.size, 4, none⟩ u4).setCell ⟨A.heap.size, 5, none⟩ u5).setCell ⟨A.heap.size, 6, none⟩ u6).setCell ⟨A.heap.size, 7, none⟩ u7).cell? ⟨bg, 1, none⟩ = some (.int .i64 16) ∧ ((((((((W.setCell ⟨A.heap.size, 0, none⟩ u0).setCell ⟨A.heap.size, 1, none⟩ u1).setCell ⟨A.heap.size, 2, none⟩ u2).setCell ⟨A.heap.size, 3, none⟩ u3).setCell ⟨A.heap.size, 4, none⟩ u4).setCell ⟨A.heap.size, 5, none⟩ u5).setCell ⟨A.heap.size, 6, none⟩ u6).setCell ⟨A.heap.size, 7, none⟩ u7).cell? ⟨bg, 2, none⟩ = some (.int .i64 40) :=
  gb_set hA (gb_set hA (gb_set hA (gb_set hA (gb_set hA (gb_set hA (gb_set hA (gb_set hA h)))))))
theorem gb_sets' {bg nb : Nat} {A : World} (hn : A.heap.size = nb) (hA : A.cell? ⟨bg, 0, none⟩ = some (.int .i64 8) ∧ A.cell? ⟨bg, 1, none⟩ = some (.int .i64 16) ∧ A.cell? ⟨bg, 2, none⟩ = some (.int .i64 40)) {u0 u1 u2 u3 u4 u5 u6 u7 : Value} (h : W.cell? ⟨bg, 0, none⟩ = some (.int .i64 8) ∧ W.cell? ⟨bg, 1, none⟩ = some (.int .i64 16) ∧ W.cell? ⟨bg, 2, none⟩ = some (.int .i64 40)) :
    ((((((((W.setCell ⟨nb, 0, none⟩ u0).setCell ⟨nb, 1, none⟩ u1).setCell ⟨nb, 2, none⟩ u2).setCell ⟨nb, 3, none⟩ u3).setCell ⟨nb, 4, none⟩ u4).setCell ⟨nb, 5, none⟩ u5).setCell ⟨nb, 6, none⟩ u6).setCell ⟨nb, 7, none⟩ u7).cell? ⟨bg, 0, none⟩ = some (.int .i64 8) ∧ ((((((((W.setCell ⟨nb, 0, none⟩ u0).setCell ⟨nb, 1, none⟩ u1).setCell ⟨nb, 2, none⟩ u2).setCell ⟨nb, 3, none⟩ u3).setCell ⟨nb, 4, none⟩ u4).setCell ⟨nb, 5, none⟩ u5).setCell ⟨nb, 6, none⟩ u6).setCell ⟨nb, 7, none⟩ u7).cell? ⟨bg, 1, none⟩ = some (.int .i64 16) ∧ ((((((((W.setCell ⟨nb, 0, none⟩ u0).setCell ⟨nb, 1, none⟩ u1).setCell ⟨nb, 2, none⟩ u2).setCell ⟨nb, 3, none⟩ u3).setCell ⟨nb, 4, none⟩ u4).setCell ⟨nb, 5, none⟩ u5).setCell ⟨nb, 6, none⟩ u6).setCell ⟨nb, 7, none⟩ u7).cell? ⟨bg, 2, none⟩ = some (.int .i64 40) :=
  by subst hn; exact gb_set hA (gb_set hA (gb_set hA (gb_set hA (gb_set hA (gb_set hA (gb_set hA (gb_set hA h)))))))
theorem twoI_wf : twoI.Wf := by constructor <;> decide
theorem two_may (v : Int) (hv : v ≤ 16) : MayB 8 16 40 twoI v := ⟨mays_small, hv, by decide, fun k hk => by
  have : k = 0 ∨ k = 1 ∨ k = 2 ∨ k = 3 := by omega
  rcases this with rfl | rfl | rfl | rfl <;> decide⟩
theorem sz_nil : Sz [] := fun y hy => by cases hy

set_option maxHeartbeats 8000000 in
theorem alive09_any (w : World) : Calls Tryz.prog 25 #[] w fun e w' => e = .returned (.bool true) ∧ Below w.heap.size w w' := by
  go_enter Tryz.func25, Tryz.ntmps25
  go_wp2_with fail
  refine (small_any w).mono ?_
  rintro e w1 ⟨rfl, hB1⟩
  unfold gv
  go_wp2_with fail
  have b2 : (w1.alloc (.cells #[.int .i64 8, .int .i64 16, .int .i64 40] 56)).heap[w1.heap.size]? = some (.cells #[.int .i64 8, .int .i64 16, .int .i64 40] 56 (0, 0)) := hp_new _ _ rfl
  have hB2 := bal hB1 (.cells #[.int .i64 8, .int .i64 16, .int .i64 40] 56)
  obtain ⟨W2, hW2⟩ : ∃ W2, w1.alloc (.cells #[.int .i64 8, .int .i64 16, .int .i64 40] 56) = W2 := ⟨_, rfl⟩
  obtain ⟨bg, hbg⟩ : ∃ bg, w1.heap.size = bg := ⟨_, rfl⟩
  rw [hW2, hbg] at b2
  rw [hW2] at hB2
  simp only [hW2, hbg]
  have hmd := made9_any (w0 := w) mays_small (N := 63) (by rfl) hB2
  unfold gv at hmd
  have HMD := Lib.hid hmd
  have hbs := blk_lt b2
  have hbw : w.heap.size ≤ bg := by rw [← hbg]; exact hB1.size
  have HBS := Lib.hid hbs
  have HBW := Lib.hid hbw
  clear hmd hB1 hB2 hW2 hbg hbs hbw
  have g0 := cl_of b2 0
  have g1 := cl_of b2 1
  have g2 := cl_of b2 2
  go_wp2_with fail
  refine HMD.out.mono ?_
  rintro e w4 ⟨tb, p, rfl, X, jb, m, h4, hX, hjb, htb, hm, hB4⟩
  have d3 := bblk hB4 b2
  have g0 : w4.cell? ⟨bg, 0, none⟩ = some (.int .i64 8) := cl_of d3 0
  have g1 : w4.cell? ⟨bg, 1, none⟩ = some (.int .i64 16) := cl_of d3 1
  have g2 : w4.cell? ⟨bg, 2, none⟩ = some (.int .i64 40) := cl_of d3 2
  have HT4 := Lib.hid h4
  have HXB : Hid (X bg) := Lib.hid (hX bg HBW.out HBS.out)
  have HM : Hid (bg ≠ jb ∧ bg ≠ tb ∧ bg ≠ m) := Lib.hid (by have := HBS.out; omega)
  clear h4 hX hjb htb hm hB4 d3 b2 HMD HBS
  have htwo := fun W => two_any W
  have hget := fun (W2 : World) (h2 : TJ w X p jb 63 0 1 40 0 0 (newS 63) tb m [] false W2) => bget_any (bsn := 0) h2 geoN_small (two_may 0 (by decide)) twoI_wf sz_nil (fun h => absurd rfl h) 1 (by decide)
  rw [show pg twoI [] 0 1 = 9 from rfl, show ((1 : Nat) : Int) = 1 from rfl] at hget
  unfold gv at hget
  unfold ic twoI at hget htwo
  have HTWO := Lib.hid htwo
  have HGET := Lib.hid hget
  clear htwo hget
  go_wp2_with fail
  first | (go_region_held3 (fun Wq => Wq.cell? ⟨bg, 0, none⟩ = some (.int .i64 8) ∧ Wq.cell? ⟨bg, 1, none⟩ = some (.int .i64 16) ∧ Wq.cell? ⟨bg, 2, none⟩ = some (.int .i64 40)) (first | exact ⟨g0, g1, g2⟩ | assumption | exact gb_below (by assumption) (by assumption)) (first | (go_at_call 54; ((with_reducible refine (HTWO.out _).mono ?_); rintro e w5 ⟨rfl, hB5⟩; have hT5 := ((HT4.out.of (Below.refl _ _).drew).of hB5))) | (go_at_call 32; ((with_reducible refine (HGET.out _ hT5).mono ?_); rintro e w6 ⟨rfl, hB6⟩)))) | fail
  first | (rename_i hK; refine hK _ _ ?_; clear hK) | (rename_i hK _; refine hK _ _ ?_; clear hK) | (rename_i hK _ _; refine hK _ _ ?_; clear hK)
  have HT6 := Lib.hid (hT5.of hB6)
  have hset := fun (W : World) => bset_none (tb := tb) (two_may 3 (by decide)) twoI_wf rfl (by decide) (by decide) 4 (by decide) (by decide) W
  rw [show ((4 : Nat) : Int) = 4 from rfl] at hset
  unfold gv at hset
  unfold ic twoI Ino.zero at hset
  have HST := Lib.hid hset
  have h6 := (‹w6.cell? ⟨bg, 0, none⟩ = some (.int .i64 8) ∧ w6.cell? ⟨bg, 1, none⟩ = some (.int .i64 16) ∧ w6.cell? ⟨bg, 2, none⟩ = some (.int .i64 40)›)
  clear hset hT5 hB5 hB6 g0 g1 g2 HGET
  go_wp2_with fail
  apply region_mid (R := fun _ W' => Below w6.heap.size w6 W')
  case h =>
    refine wp_region_held_drew (S := (fun Wq => Wq.cell? ⟨bg, 0, none⟩ = some (.int .i64 8) ∧ Wq.cell? ⟨bg, 1, none⟩ = some (.int .i64 16) ∧ Wq.cell? ⟨bg, 2, none⟩ = some (.int .i64 40))) (by kernel_rfl) (by exact h6) (fun hHeld => ?_)
    refine wpAnyH_now (i := 0) (v := ?v0) rfl (by kernel_rfl) (by kernel_rfl) (by kernel_rfl) (fun _ _ _ h => h) (by rfl) ?h0 (by assumption) ?_
    case h0 => ((intro w hSw; (try dsimp only at hSw); go_simp); try with_reducible rfl)
    (try simp only [Act.put, List.setIfInBounds_toArray, List.set_cons_succ, List.set_cons_zero])
    refine wpAnyH_now (i := 1) (v := ?v1) rfl (by kernel_rfl) (by kernel_rfl) (by kernel_rfl) (fun _ _ _ h => h) (by rfl) ?h1 (by assumption) ?_
    case h1 => ((intro w hSw; (try dsimp only at hSw); go_simp); try with_reducible rfl)
    (try simp only [Act.put, List.setIfInBounds_toArray, List.set_cons_succ, List.set_cons_zero])
    refine wpAnyH_two (i := 2) (j := 7) (by kernel_rfl) rfl rfl (by rfl) (by rfl) (fun K hK => ?_) (fun K hK => ?_)
    · go_simp
      refine (HTWO.out _).mono ?_
      rintro e w5 ⟨rfl, hB5⟩
      refine hK.out _ _ (by exact gb_below hB5 hHeld) (fun hHeld => ?_)
      clear hK K
      (try simp only [Act.put, List.setIfInBounds_toArray, List.set_cons_succ, List.set_cons_zero])
      refine wpAnyH_two (i := 3) (j := 7) (by kernel_rfl) rfl rfl (by rfl) (by rfl) (fun K hK => ?_) (fun K hK => ?_)
      · go_simp
        refine (HST.out _).mono ?_
        rintro e w7 ⟨rfl, hB7⟩
        refine hK.out _ _ (by exact gb_below hB7 hHeld) (fun hHeld => ?_)
        clear hK K
        (try simp only [Act.put, List.setIfInBounds_toArray, List.set_cons_succ, List.set_cons_zero])
        refine wpAnyH_now (i := 4) (v := ?v2) rfl (by kernel_rfl) (by kernel_rfl) (by kernel_rfl) (fun _ _ _ h => h) (by rfl) ?h2 (by assumption) ?_
        case h2 => ((intro w hSw; (try dsimp only at hSw); go_simp); try with_reducible rfl)
        (try simp only [Act.put, List.setIfInBounds_toArray, List.set_cons_succ, List.set_cons_zero])
        refine wpAnyH_now (i := 5) (v := ?v3) rfl (by kernel_rfl) (by kernel_rfl) (by kernel_rfl) (fun _ _ _ h => h) (by rfl) ?h3 (by assumption) ?_
        case h3 => ((intro w hSw; (try dsimp only at hSw); go_simp); try with_reducible rfl)
        (try simp only [Act.put, List.setIfInBounds_toArray, List.set_cons_succ, List.set_cons_zero])
        refine wpAnyH_now (i := 6) (v := ?v4) rfl (by kernel_rfl) (by kernel_rfl) (by kernel_rfl) (fun _ _ _ h => h) (by rfl) ?h4 (by assumption) ?_
        case h4 => ((intro w hSw; (try dsimp only at hSw); go_simp); try with_reducible rfl)
        (try simp only [Act.put, List.setIfInBounds_toArray, List.set_cons_succ, List.set_cons_zero])
        refine wpAnyH_only (i := 7) (by kernel_rfl) rfl (by rfl) (fun K hK => ?_)
        go_simp
        refine hK.out _ _ (by exact gb_below (bnew _ _) hHeld) (fun hHeld => ?_)
        clear hK K
        (try simp only [Act.put, List.setIfInBounds_toArray, List.set_cons_succ, List.set_cons_zero])
        have nb := hp_new w7 (.cells #[.int .u8 0, .int .u16 0, .int .u32 0, .int .u16 0, .int .u16 0, .int .u16 0, .int .u16 0, .int .u16 0] 61) rfl
        have n0 := cl_of nb 0; have n1 := cl_of nb 1; have n2 := cl_of nb 2; have n3 := cl_of nb 3; have n4 := cl_of nb 4; have n5 := cl_of nb 5; have n6 := cl_of nb 6; have n7 := cl_of nb 7; have nz := fz_of nb
        have hS7 := gb_below hB7 (gb_below hB5 h6)
        refine wpAnyH_only (i := 8) (by kernel_rfl) rfl (by rfl) (fun K hK => ?_)
        go_simp
        refine hK.out _ _ (by exact gb_below (bnew _ _) hS7) (fun hHeld => ?_)
        clear hK K
        (try simp only [Act.put, List.setIfInBounds_toArray, List.set_cons_succ, List.set_cons_zero])
        refine wpAnyH_now (i := 9) (v := ?v5) rfl (by kernel_rfl) (by kernel_rfl) (by kernel_rfl) (fun _ _ _ h => h) (by rfl) ?h5 (by assumption) ?_
        case h5 => ((intro w hSw; (try dsimp only at hSw); go_simp); try with_reducible rfl)
        (try simp only [Act.put, List.setIfInBounds_toArray, List.set_cons_succ, List.set_cons_zero])
        refine wpAnyH_done (by kernel_rfl) ?_ _
        refine NoPanic.normal ?_
        obtain ⟨nbv, hnb⟩ : ∃ k, w7.heap.size = k := ⟨_, rfl⟩
        rw [hnb]
        exact ⟨rfl, nbv, rfl, by exact bal (bt (bt (Below.refl _ w6).drew hB5) hB7) _⟩
      · go_simp
        refine hK.out _ _ (by exact gb_below (bnew _ _) hHeld) (fun hHeld => ?_)
        clear hK K
        (try simp only [Act.put, List.setIfInBounds_toArray, List.set_cons_succ, List.set_cons_zero])
        have nb0 := hp_new w5 (.cells #[.int .u8 0, .int .u16 0, .int .u32 0, .int .u16 0, .int .u16 0, .int .u16 0, .int .u16 0, .int .u16 0] 61) rfl
        refine wpAnyH_only (i := 3) (by kernel_rfl) rfl (by rfl) (fun K hK => ?_)
        go_simp
        refine (HST.out _).mono ?_
        rintro e w7 ⟨rfl, hB7⟩
        refine hK.out _ _ (by exact gb_below hB7 hHeld) (fun hHeld => ?_)
        clear hK K
        (try simp only [Act.put, List.setIfInBounds_toArray, List.set_cons_succ, List.set_cons_zero])
        have nb := bblk hB7 nb0
        have n0 := cl_of nb 0; have n1 := cl_of nb 1; have n2 := cl_of nb 2; have n3 := cl_of nb 3; have n4 := cl_of nb 4; have n5 := cl_of nb 5; have n6 := cl_of nb 6; have n7 := cl_of nb 7; have nz := fz_of nb
        refine wpAnyH_now (i := 4) (v := ?v6) rfl (by kernel_rfl) (by kernel_rfl) (by kernel_rfl) (fun _ _ _ h => h) (by rfl) ?h6 (by assumption) ?_
        case h6 => ((intro w hSw; (try dsimp only at hSw); go_simp); try with_reducible rfl)
        (try simp only [Act.put, List.setIfInBounds_toArray, List.set_cons_succ, List.set_cons_zero])
        refine wpAnyH_now (i := 5) (v := ?v7) rfl (by kernel_rfl) (by kernel_rfl) (by kernel_rfl) (fun _ _ _ h => h) (by rfl) ?h7 (by assumption) ?_
        case h7 => ((intro w hSw; (try dsimp only at hSw); go_simp); try with_reducible rfl)
        (try simp only [Act.put, List.setIfInBounds_toArray, List.set_cons_succ, List.set_cons_zero])
        refine wpAnyH_now (i := 6) (v := ?v8) rfl (by kernel_rfl) (by kernel_rfl) (by kernel_rfl) (fun _ _ _ h => h) (by rfl) ?h8 (by assumption) ?_
        case h8 => ((intro w hSw; (try dsimp only at hSw); go_simp); try with_reducible rfl)
        (try simp only [Act.put, List.setIfInBounds_toArray, List.set_cons_succ, List.set_cons_zero])
        have hS5 := gb_below hB5 h6
        refine wpAnyH_only (i := 8) (by kernel_rfl) rfl (by rfl) (fun K hK => ?_)
        go_simp
        refine hK.out _ _ (by exact gb_sets (A := w5) hS5 (gb_below hB7 (gb_below (bnew _ _) hS5))) (fun hHeld => ?_)
        clear hK K
        (try simp only [Act.put, List.setIfInBounds_toArray, List.set_cons_succ, List.set_cons_zero])
        refine wpAnyH_now (i := 9) (v := ?v9) rfl (by kernel_rfl) (by kernel_rfl) (by kernel_rfl) (fun _ _ _ h => h) (by rfl) ?h9 (by assumption) ?_
        case h9 => ((intro w hSw; (try dsimp only at hSw); go_simp); try with_reducible rfl)
        (try simp only [Act.put, List.setIfInBounds_toArray, List.set_cons_succ, List.set_cons_zero])
        refine wpAnyH_done (by kernel_rfl) ?_ _
        refine NoPanic.normal ?_
        obtain ⟨nbv, hnb⟩ : ∃ k, w5.heap.size = k := ⟨_, rfl⟩
        rw [hnb]
        exact ⟨rfl, nbv, rfl, by exact below_sets (bt (bal (bt (Below.refl _ w6).drew hB5) _) hB7) (Nat.le_trans hB5.size (Nat.le_of_eq hnb))⟩
    · go_simp
      refine hK.out _ _ (by exact gb_below (bnew _ _) hHeld) (fun hHeld => ?_)
      clear hK K
      (try simp only [Act.put, List.setIfInBounds_toArray, List.set_cons_succ, List.set_cons_zero])
      have nb0 := hp_newd w6 (.cells #[.int .u8 0, .int .u16 0, .int .u32 0, .int .u16 0, .int .u16 0, .int .u16 0, .int .u16 0, .int .u16 0] 61)
      refine wpAnyH_only (i := 2) (by kernel_rfl) rfl (by rfl) (fun K hK => ?_)
      go_simp
      refine (HTWO.out _).mono ?_
      rintro e w5 ⟨rfl, hB5⟩
      refine hK.out _ _ (by exact gb_below hB5 hHeld) (fun hHeld => ?_)
      clear hK K
      (try simp only [Act.put, List.setIfInBounds_toArray, List.set_cons_succ, List.set_cons_zero])
      have nb1 := bblk hB5 nb0
      refine wpAnyH_only (i := 3) (by kernel_rfl) rfl (by rfl) (fun K hK => ?_)
      go_simp
      refine (HST.out _).mono ?_
      rintro e w7 ⟨rfl, hB7⟩
      refine hK.out _ _ (by exact gb_below hB7 hHeld) (fun hHeld => ?_)
      clear hK K
      (try simp only [Act.put, List.setIfInBounds_toArray, List.set_cons_succ, List.set_cons_zero])
      have nb := bblk hB7 nb1
      have n0 := cl_of nb 0; have n1 := cl_of nb 1; have n2 := cl_of nb 2; have n3 := cl_of nb 3; have n4 := cl_of nb 4; have n5 := cl_of nb 5; have n6 := cl_of nb 6; have n7 := cl_of nb 7; have nz := fz_of nb
      refine wpAnyH_now (i := 4) (v := ?v10) rfl (by kernel_rfl) (by kernel_rfl) (by kernel_rfl) (fun _ _ _ h => h) (by rfl) ?h10 (by assumption) ?_
      case h10 => ((intro w hSw; (try dsimp only at hSw); go_simp); try with_reducible rfl)
      (try simp only [Act.put, List.setIfInBounds_toArray, List.set_cons_succ, List.set_cons_zero])
      refine wpAnyH_now (i := 5) (v := ?v11) rfl (by kernel_rfl) (by kernel_rfl) (by kernel_rfl) (fun _ _ _ h => h) (by rfl) ?h11 (by assumption) ?_
      case h11 => ((intro w hSw; (try dsimp only at hSw); go_simp); try with_reducible rfl)
      (try simp only [Act.put, List.setIfInBounds_toArray, List.set_cons_succ, List.set_cons_zero])
      refine wpAnyH_now (i := 6) (v := ?v12) rfl (by kernel_rfl) (by kernel_rfl) (by kernel_rfl) (fun _ _ _ h => h) (by rfl) ?h12 (by assumption) ?_
      case h12 => ((intro w hSw; (try dsimp only at hSw); go_simp); try with_reducible rfl)
      (try simp only [Act.put, List.setIfInBounds_toArray, List.set_cons_succ, List.set_cons_zero])
      refine wpAnyH_only (i := 8) (by kernel_rfl) rfl (by rfl) (fun K hK => ?_)
      go_simp
      refine hK.out _ _ (by exact gb_sets (A := w6) h6 (gb_below hB7 (gb_below hB5 (gb_below (bnew _ _).drew h6)))) (fun hHeld => ?_)
      clear hK K
      (try simp only [Act.put, List.setIfInBounds_toArray, List.set_cons_succ, List.set_cons_zero])
      refine wpAnyH_now (i := 9) (v := ?v13) rfl (by kernel_rfl) (by kernel_rfl) (by kernel_rfl) (fun _ _ _ h => h) (by rfl) ?h13 (by assumption) ?_
      case h13 => ((intro w hSw; (try dsimp only at hSw); go_simp); try with_reducible rfl)
      (try simp only [Act.put, List.setIfInBounds_toArray, List.set_cons_succ, List.set_cons_zero])
      refine wpAnyH_done (by kernel_rfl) ?_ _
      refine NoPanic.normal ?_
      obtain ⟨nbv, hnb⟩ : ∃ k, w6.heap.size = k := ⟨_, rfl⟩
      rw [hnb]
      exact ⟨rfl, nbv, rfl, by exact below_sets (by (rw [← hnb]; exact bt (bt (bnew w6 _).drew hB5) hB7)) (Nat.le_refl _)⟩
  case hc =>
    intro nb w8 hB8
    have HT8 := Lib.hid (HT6.out.of hB8)
    have h8 := gb_below hB8 h6
    have hcut := fun (W2 : World) (X2 : Nat → Prop) (h2 : TJ w X2 p jb 63 0 1 40 0 0 (newS 63) tb m [] false W2) => bcut_any (bsn := 0) h2 geoN_small (two_may 0 (by decide)) twoI_wf sz_nil (fun h => absurd rfl h) 1 (by decide) (.inr (by decide))
    unfold CutPost at hcut
    rw [show twoI.cut 1 = ⟨1, 0, 128, 7, 0, 0, 0, 0⟩ from rfl, show cutF twoI [] 0 1 = [9] from rfl, show cutM twoI [] 0 1 = [] from rfl, show ((1 : Nat) : Int) = 1 from rfl] at hcut
    unfold gv at hcut
    unfold ic twoI at hcut
    have HCUT := Lib.hid hcut
    clear hcut hB8 h6 HST HT6
    go_wp2_with fail
    apply region_mid2 (R := fun nb v W' => W'.heap[nb]? = some (.cells (ic ⟨1, 0, 128, 7, 0, 0, 0, 0⟩) 61 (0, 0)) ∧ (W'.cell? ⟨bg, 0, none⟩ = some (.int .i64 8) ∧ W'.cell? ⟨bg, 1, none⟩ = some (.int .i64 16) ∧ W'.cell? ⟨bg, 2, none⟩ = some (.int .i64 40)) ∧ W'.ownsRow 0 57 1 v ([9] : List Int).length (u16s [9]) ∧ Below w.heap.size w W')
    case h =>
     refine wp_region_held_drew (S := (fun Wq => Wq.cell? ⟨bg, 0, none⟩ = some (.int .i64 8) ∧ Wq.cell? ⟨bg, 1, none⟩ = some (.int .i64 16) ∧ Wq.cell? ⟨bg, 2, none⟩ = some (.int .i64 40))) (by kernel_rfl) (by exact h8) (fun hHeld => ?_)
     refine wpAnyH_now (i := 0) (v := ?v100) rfl (by kernel_rfl) (by kernel_rfl) (by kernel_rfl) (fun _ _ _ h => h) (by rfl) ?h100 (by assumption) ?_
     case h100 => ((intro w hSw; (try dsimp only at hSw); go_simp); try with_reducible rfl)
     (try simp only [Act.put, List.setIfInBounds_toArray, List.set_cons_succ, List.set_cons_zero])
     refine wpAnyH_now (i := 1) (v := ?v101) rfl (by kernel_rfl) (by kernel_rfl) (by kernel_rfl) (fun _ _ _ h => h) (by rfl) ?h101 (by assumption) ?_
     case h101 => ((intro w hSw; (try dsimp only at hSw); go_simp); try with_reducible rfl)
     (try simp only [Act.put, List.setIfInBounds_toArray, List.set_cons_succ, List.set_cons_zero])
     refine wpAnyH_two (i := 2) (j := 8) (by kernel_rfl) rfl rfl (by rfl) (by rfl) (fun K hK => ?_) (fun K hK => ?_)
     · go_simp
       refine (HTWO.out _).mono ?_
       rintro e w5 ⟨rfl, hB5⟩
       refine hK.out _ _ (by exact gb_below hB5 hHeld) (fun hHeld => ?_)
       clear hK K
       (try simp only [Act.put, List.setIfInBounds_toArray, List.set_cons_succ, List.set_cons_zero])
       refine wpAnyH_two (i := 3) (j := 8) (by kernel_rfl) rfl rfl (by rfl) (by rfl) (fun K hK => ?_) (fun K hK => ?_)
       · have hT5 := HT8.out.of (bt (Below.refl _ w8).drew hB5)
         go_simp
         refine (HCUT.out _ _ hT5).mono ?_
         rintro e w7 ⟨v, rfl, hrow, hT7, hK7⟩
         obtain ⟨ao, ln, cp, rfl⟩ := row_slice hrow
         refine hK.out _ _ (by exact gb_kb hK7 (.inr ⟨HXB.out, HM.out.2.2⟩) hHeld) (fun hHeld => ?_)
         clear hK K
         (try simp only [Act.put, List.setIfInBounds_toArray, List.set_cons_succ, List.set_cons_zero])
         refine wpAnyH_now (i := 4) (v := ?v102) rfl (by kernel_rfl) (by kernel_rfl) (by kernel_rfl) (fun _ _ _ h => h) (by rfl) ?h102 (by assumption) ?_
         case h102 => ((intro w hSw; (try dsimp only at hSw); go_simp); try with_reducible rfl)
         (try simp only [Act.put, List.setIfInBounds_toArray, List.set_cons_succ, List.set_cons_zero])
         refine wpAnyH_now (i := 5) (v := ?v103) rfl (by kernel_rfl) (by kernel_rfl) (by kernel_rfl) (fun _ _ _ h => h) (by rfl) ?h103 (by assumption) ?_
         case h103 => ((intro w hSw; (try dsimp only at hSw); go_simp); try with_reducible rfl)
         (try simp only [Act.put, List.setIfInBounds_toArray, List.set_cons_succ, List.set_cons_zero])
         refine wpAnyH_now (i := 6) (v := ?v104) rfl (by kernel_rfl) (by kernel_rfl) (by kernel_rfl) (fun _ _ _ h => h) (by rfl) ?h104 (by assumption) ?_
         case h104 => ((intro w hSw; (try dsimp only at hSw); go_simp); try with_reducible rfl)
         (try simp only [Act.put, List.setIfInBounds_toArray, List.set_cons_succ, List.set_cons_zero])
         refine wpAnyH_now (i := 7) (v := ?v105) rfl (by kernel_rfl) (by kernel_rfl) (by kernel_rfl) (fun _ _ _ h => h) (by rfl) ?h105 (by assumption) ?_
         case h105 => ((intro w hSw; (try dsimp only at hSw); go_simp); try with_reducible rfl)
         (try simp only [Act.put, List.setIfInBounds_toArray, List.set_cons_succ, List.set_cons_zero])
         refine wpAnyH_only (i := 8) (by kernel_rfl) rfl (by rfl) (fun K hK => ?_)
         go_simp
         refine hK.out _ _ (by exact gb_below (bnew _ _) hHeld) (fun hHeld => ?_)
         clear hK K
         (try simp only [Act.put, List.setIfInBounds_toArray, List.set_cons_succ, List.set_cons_zero])
         have nb := hp_new w7 (.cells #[.int .u8 0, .int .u16 0, .int .u32 0, .int .u16 0, .int .u16 0, .int .u16 0, .int .u16 0, .int .u16 0] 61) rfl
         have n0 := cl_of nb 0; have n1 := cl_of nb 1; have n2 := cl_of nb 2; have n3 := cl_of nb 3; have n4 := cl_of nb 4; have n5 := cl_of nb 5; have n6 := cl_of nb 6; have n7 := cl_of nb 7; have nz := fz_of nb
         have hS7 := gb_kb hK7 (.inr ⟨HXB.out, HM.out.2.2⟩) (gb_below hB5 h8)
         refine wpAnyH_only (i := 9) (by kernel_rfl) rfl (by rfl) (fun K hK => ?_)
         go_simp
         refine hK.out _ _ (by exact gb_below (bnew _ _) hS7) (fun hHeld => ?_)
         clear hK K
         (try simp only [Act.put, List.setIfInBounds_toArray, List.set_cons_succ, List.set_cons_zero])
         refine wpAnyH_now (i := 10) (v := ?v106) rfl (by kernel_rfl) (by kernel_rfl) (by kernel_rfl) (fun _ _ _ h => h) (by rfl) ?h106 (by assumption) ?_
         case h106 => ((intro w hSw; (try dsimp only at hSw); go_simp); try with_reducible rfl)
         (try simp only [Act.put, List.setIfInBounds_toArray, List.set_cons_succ, List.set_cons_zero])
         refine wpAnyH_now (i := 11) (v := ?v107) rfl (by kernel_rfl) (by kernel_rfl) (by kernel_rfl) (fun _ _ _ h => h) (by rfl) ?h107 (by assumption) ?_
         case h107 => ((intro w hSw; (try dsimp only at hSw); go_simp); try with_reducible rfl)
         (try simp only [Act.put, List.setIfInBounds_toArray, List.set_cons_succ, List.set_cons_zero])
         refine wpAnyH_done (by kernel_rfl) ?_ _
         refine NoPanic.normal ?_
         obtain ⟨nbv, hnb⟩ : ∃ k, w7.heap.size = k := ⟨_, rfl⟩
         obtain ⟨v, hv⟩ : ∃ v, Value.slice ao ln cp = v := ⟨_, rfl⟩
         rw [hnb, hv]
         rw [hv] at hrow
         exact ⟨rfl, nbv, v, rfl, by exact ⟨hp_new _ _ hnb.symm, gb_below (bnew _ _) hS7, ownsRow_weak (row_below hrow (bnew _ _)) (Nat.zero_le _), bal hT7.j.dev.below _⟩⟩
       · go_simp
         refine hK.out _ _ (by exact gb_below (bnew _ _) hHeld) (fun hHeld => ?_)
         clear hK K
         (try simp only [Act.put, List.setIfInBounds_toArray, List.set_cons_succ, List.set_cons_zero])
         have nb0 := hp_new w5 (.cells #[.int .u8 0, .int .u16 0, .int .u32 0, .int .u16 0, .int .u16 0, .int .u16 0, .int .u16 0, .int .u16 0] 61) rfl
         refine wpAnyH_only (i := 3) (by kernel_rfl) rfl (by rfl) (fun K hK => ?_)
         have hT5 := (HT8.out.of (bt (Below.refl _ w8).drew hB5)).take (bnew w5 (.cells #[.int .u8 0, .int .u16 0, .int .u32 0, .int .u16 0, .int .u16 0, .int .u16 0, .int .u16 0, .int .u16 0] 61))
         go_simp
         refine (HCUT.out _ _ hT5).mono ?_
         rintro e w7 ⟨v, rfl, hrow, hT7, hK7⟩
         obtain ⟨ao, ln, cp, rfl⟩ := row_slice hrow
         refine hK.out _ _ (by exact gb_kb hK7 (.inr ⟨.inl HXB.out, HM.out.2.2⟩) hHeld) (fun hHeld => ?_)
         clear hK K
         (try simp only [Act.put, List.setIfInBounds_toArray, List.set_cons_succ, List.set_cons_zero])
         have hmx := HT8.out.t.mlt
         have h58 := hB5.size
         have nb := (hK7 w5.heap.size (.inr ⟨.inr ⟨Nat.le_refl _, by simp⟩, Nat.ne_of_gt (Nat.lt_of_lt_of_le hmx h58)⟩)).trans nb0
         have n0 := cl_of nb 0; have n1 := cl_of nb 1; have n2 := cl_of nb 2; have n3 := cl_of nb 3; have n4 := cl_of nb 4; have n5 := cl_of nb 5; have n6 := cl_of nb 6; have n7 := cl_of nb 7; have nz := fz_of nb
         refine wpAnyH_now (i := 4) (v := ?v108) rfl (by kernel_rfl) (by kernel_rfl) (by kernel_rfl) (fun _ _ _ h => h) (by rfl) ?h108 (by assumption) ?_
         case h108 => ((intro w hSw; (try dsimp only at hSw); go_simp); try with_reducible rfl)
         (try simp only [Act.put, List.setIfInBounds_toArray, List.set_cons_succ, List.set_cons_zero])
         refine wpAnyH_now (i := 5) (v := ?v109) rfl (by kernel_rfl) (by kernel_rfl) (by kernel_rfl) (fun _ _ _ h => h) (by rfl) ?h109 (by assumption) ?_
         case h109 => ((intro w hSw; (try dsimp only at hSw); go_simp); try with_reducible rfl)
         (try simp only [Act.put, List.setIfInBounds_toArray, List.set_cons_succ, List.set_cons_zero])
         refine wpAnyH_now (i := 6) (v := ?v110) rfl (by kernel_rfl) (by kernel_rfl) (by kernel_rfl) (fun _ _ _ h => h) (by rfl) ?h110 (by assumption) ?_
         case h110 => ((intro w hSw; (try dsimp only at hSw); go_simp); try with_reducible rfl)
         (try simp only [Act.put, List.setIfInBounds_toArray, List.set_cons_succ, List.set_cons_zero])
         refine wpAnyH_now (i := 7) (v := ?v111) rfl (by kernel_rfl) (by kernel_rfl) (by kernel_rfl) (fun _ _ _ h => h) (by rfl) ?h111 (by assumption) ?_
         case h111 => ((intro w hSw; (try dsimp only at hSw); go_simp); try with_reducible rfl)
         (try simp only [Act.put, List.setIfInBounds_toArray, List.set_cons_succ, List.set_cons_zero])
         have hS5 := gb_below hB5 h8
         have hS7 := gb_kb hK7 (.inr ⟨.inl HXB.out, HM.out.2.2⟩) (gb_below (bnew w5 (.cells #[.int .u8 0, .int .u16 0, .int .u32 0, .int .u16 0, .int .u16 0, .int .u16 0, .int .u16 0, .int .u16 0] 61)) hS5)
         refine wpAnyH_only (i := 9) (by kernel_rfl) rfl (by rfl) (fun K hK => ?_)
         go_simp
         refine hK.out _ _ (by exact gb_sets (A := w5) hS5 hS7) (fun hHeld => ?_)
         clear hK K
         (try simp only [Act.put, List.setIfInBounds_toArray, List.set_cons_succ, List.set_cons_zero])
         refine wpAnyH_now (i := 10) (v := ?v112) rfl (by kernel_rfl) (by kernel_rfl) (by kernel_rfl) (fun _ _ _ h => h) (by rfl) ?h112 (by assumption) ?_
         case h112 => ((intro w hSw; (try dsimp only at hSw); go_simp); try with_reducible rfl)
         (try simp only [Act.put, List.setIfInBounds_toArray, List.set_cons_succ, List.set_cons_zero])
         refine wpAnyH_now (i := 11) (v := ?v113) rfl (by kernel_rfl) (by kernel_rfl) (by kernel_rfl) (fun _ _ _ h => h) (by rfl) ?h113 (by assumption) ?_
         case h113 => ((intro w hSw; (try dsimp only at hSw); go_simp); try with_reducible rfl)
         (try simp only [Act.put, List.setIfInBounds_toArray, List.set_cons_succ, List.set_cons_zero])
         refine wpAnyH_done (by kernel_rfl) ?_ _
         refine NoPanic.normal ?_
         have hr0 : w5.heap.size < (w5.alloc (.cells #[.int .u8 0, .int .u16 0, .int .u32 0, .int .u16 0, .int .u16 0, .int .u16 0, .int .u16 0, .int .u16 0] 61)).heap.size := by simp
         have hwb := hT7.j.dev.below
         have hw5 : w.heap.size ≤ w5.heap.size := Nat.le_trans HT8.out.j.dev.below.size h58
         obtain ⟨nbv, hnb⟩ : ∃ k, w5.heap.size = k := ⟨_, rfl⟩
         obtain ⟨v, hv⟩ : ∃ v, Value.slice ao ln cp = v := ⟨_, rfl⟩
         rw [hnb, hv]
         rw [hv] at hrow
         exact ⟨rfl, nbv, v, rfl, by (rw [hnb] at nb hr0 hw5; exact ⟨put8_here (x := Ino.zero) nb ⟨1, 0, 128, 7, 0, 0, 0, 0⟩, gb_sets' hnb hS5 hS7, ownsRow_weak (row_sets hrow hr0) (Nat.zero_le _), below_sets hwb hw5⟩)⟩
     · go_simp
       refine hK.out _ _ (by exact gb_below (bnew _ _) hHeld) (fun hHeld => ?_)
       clear hK K
       (try simp only [Act.put, List.setIfInBounds_toArray, List.set_cons_succ, List.set_cons_zero])
       have nb0 := hp_newd w8 (.cells #[.int .u8 0, .int .u16 0, .int .u32 0, .int .u16 0, .int .u16 0, .int .u16 0, .int .u16 0, .int .u16 0] 61)
       refine wpAnyH_only (i := 2) (by kernel_rfl) rfl (by rfl) (fun K hK => ?_)
       go_simp
       refine (HTWO.out _).mono ?_
       rintro e w5 ⟨rfl, hB5⟩
       refine hK.out _ _ (by exact gb_below hB5 hHeld) (fun hHeld => ?_)
       clear hK K
       (try simp only [Act.put, List.setIfInBounds_toArray, List.set_cons_succ, List.set_cons_zero])
       have nb1 := bblk hB5 nb0
       refine wpAnyH_only (i := 3) (by kernel_rfl) rfl (by rfl) (fun K hK => ?_)
       have hT5 := ((HT8.out.take (bnew w8 (.cells #[.int .u8 0, .int .u16 0, .int .u32 0, .int .u16 0, .int .u16 0, .int .u16 0, .int .u16 0, .int .u16 0] 61))).of (Below.refl _ _).drew).of hB5
       go_simp
       refine (HCUT.out _ _ hT5).mono ?_
       rintro e w7 ⟨v, rfl, hrow, hT7, hK7⟩
       obtain ⟨ao, ln, cp, rfl⟩ := row_slice hrow
       refine hK.out _ _ (by exact gb_kb hK7 (.inr ⟨.inl HXB.out, HM.out.2.2⟩) hHeld) (fun hHeld => ?_)
       clear hK K
       (try simp only [Act.put, List.setIfInBounds_toArray, List.set_cons_succ, List.set_cons_zero])
       have hmx := HT8.out.t.mlt
       have nb := (hK7 w8.heap.size (.inr ⟨.inr ⟨Nat.le_refl _, by simp⟩, Nat.ne_of_gt hmx⟩)).trans nb1
       have n0 := cl_of nb 0; have n1 := cl_of nb 1; have n2 := cl_of nb 2; have n3 := cl_of nb 3; have n4 := cl_of nb 4; have n5 := cl_of nb 5; have n6 := cl_of nb 6; have n7 := cl_of nb 7; have nz := fz_of nb
       refine wpAnyH_now (i := 4) (v := ?v114) rfl (by kernel_rfl) (by kernel_rfl) (by kernel_rfl) (fun _ _ _ h => h) (by rfl) ?h114 (by assumption) ?_
       case h114 => ((intro w hSw; (try dsimp only at hSw); go_simp); try with_reducible rfl)
       (try simp only [Act.put, List.setIfInBounds_toArray, List.set_cons_succ, List.set_cons_zero])
       refine wpAnyH_now (i := 5) (v := ?v115) rfl (by kernel_rfl) (by kernel_rfl) (by kernel_rfl) (fun _ _ _ h => h) (by rfl) ?h115 (by assumption) ?_
       case h115 => ((intro w hSw; (try dsimp only at hSw); go_simp); try with_reducible rfl)
       (try simp only [Act.put, List.setIfInBounds_toArray, List.set_cons_succ, List.set_cons_zero])
       refine wpAnyH_now (i := 6) (v := ?v116) rfl (by kernel_rfl) (by kernel_rfl) (by kernel_rfl) (fun _ _ _ h => h) (by rfl) ?h116 (by assumption) ?_
       case h116 => ((intro w hSw; (try dsimp only at hSw); go_simp); try with_reducible rfl)
       (try simp only [Act.put, List.setIfInBounds_toArray, List.set_cons_succ, List.set_cons_zero])
       refine wpAnyH_now (i := 7) (v := ?v117) rfl (by kernel_rfl) (by kernel_rfl) (by kernel_rfl) (fun _ _ _ h => h) (by rfl) ?h117 (by assumption) ?_
       case h117 => ((intro w hSw; (try dsimp only at hSw); go_simp); try with_reducible rfl)
       (try simp only [Act.put, List.setIfInBounds_toArray, List.set_cons_succ, List.set_cons_zero])
       have hS7 := gb_kb hK7 (.inr ⟨.inl HXB.out, HM.out.2.2⟩) (gb_below hB5 (gb_below (bnew w8 (.cells #[.int .u8 0, .int .u16 0, .int .u32 0, .int .u16 0, .int .u16 0, .int .u16 0, .int .u16 0, .int .u16 0] 61)).drew h8))
       refine wpAnyH_only (i := 9) (by kernel_rfl) rfl (by rfl) (fun K hK => ?_)
       go_simp
       refine hK.out _ _ (by exact gb_sets (A := w8) h8 hS7) (fun hHeld => ?_)
       clear hK K
       (try simp only [Act.put, List.setIfInBounds_toArray, List.set_cons_succ, List.set_cons_zero])
       refine wpAnyH_now (i := 10) (v := ?v118) rfl (by kernel_rfl) (by kernel_rfl) (by kernel_rfl) (fun _ _ _ h => h) (by rfl) ?h118 (by assumption) ?_
       case h118 => ((intro w hSw; (try dsimp only at hSw); go_simp); try with_reducible rfl)
       (try simp only [Act.put, List.setIfInBounds_toArray, List.set_cons_succ, List.set_cons_zero])
       refine wpAnyH_now (i := 11) (v := ?v119) rfl (by kernel_rfl) (by kernel_rfl) (by kernel_rfl) (fun _ _ _ h => h) (by rfl) ?h119 (by assumption) ?_
       case h119 => ((intro w hSw; (try dsimp only at hSw); go_simp); try with_reducible rfl)
       (try simp only [Act.put, List.setIfInBounds_toArray, List.set_cons_succ, List.set_cons_zero])
       refine wpAnyH_done (by kernel_rfl) ?_ _
       refine NoPanic.normal ?_
       have hr0 : w8.heap.size < w5.heap.size := blk_lt nb1
       have hwb := hT7.j.dev.below
       have hw5 : w.heap.size ≤ w8.heap.size := HT8.out.j.dev.below.size
       obtain ⟨nbv, hnb⟩ : ∃ k, w8.heap.size = k := ⟨_, rfl⟩
       obtain ⟨v, hv⟩ : ∃ v, Value.slice ao ln cp = v := ⟨_, rfl⟩
       rw [hnb, hv]
       rw [hv] at hrow
       exact ⟨rfl, nbv, v, rfl, by (rw [hnb] at nb hr0 hw5; exact ⟨put8_here (x := Ino.zero) nb ⟨1, 0, 128, 7, 0, 0, 0, 0⟩, gb_sets' hnb h8 hS7, ownsRow_weak (row_sets hrow hr0) (Nat.zero_le _), below_sets hwb hw5⟩)⟩
    case hc =>
     rintro nx v w9 ⟨hx, h9, hrow, hB9⟩
     obtain ⟨ao, ln, cp, rfl⟩ := row_slice hrow
     have hnil := fun (W : World) => bget_nil (gv 8 16 40) ⟨8, 16, 40, rfl⟩ twoI 1 (by decide) W
     rw [show ((1 : Nat) : Int) = 1 from rfl] at hnil
     unfold gv at hnil
     unfold ic twoI at hnil
     have HNIL := Lib.hid hnil
     have HROW := Lib.hid hrow
     have HX := Lib.hid hx
     have HB9 := Lib.hid hB9
     clear hnil hrow hx hB9 HCUT HT8 h8
     go_wp2_with fail
     first | (go_region_held3 (fun Wq => Wq.cell? ⟨bg, 0, none⟩ = some (.int .i64 8) ∧ Wq.cell? ⟨bg, 1, none⟩ = some (.int .i64 16) ∧ Wq.cell? ⟨bg, 2, none⟩ = some (.int .i64 40)) (first | exact h9 | assumption | exact gb_below (by assumption) (by assumption)) (first | (go_at_call 54; ((with_reducible refine (HTWO.out _).mono ?_); rintro e w10 ⟨rfl, hB10⟩)) | (go_at_call 32; ((with_reducible refine (HNIL.out _).mono ?_); rintro e w11 ⟨rfl, hB11⟩)))) | fail
     first | (rename_i hK; refine hK _ _ ?_; clear hK) | (rename_i hK _; refine hK _ _ ?_; clear hK) | (rename_i hK _ _; refine hK _ _ ?_; clear hK)
     have hB := bt (bt (Below.refl _ w9).drew hB10) hB11
     have hx11 := bblk hB HX.out
     have hr11 := row_below HROW.out hB
     unfold ic at hx11
     have x3 := cl_of hx11 3
     have x4 := cl_of hx11 4
     have x5 := cl_of hx11 5
     have x6 := cl_of hx11 6
     have he : ∀ W : World, (Op.equalIn 10000 59 (.agg #[.int .u16 7, .int .u16 0, .int .u16 0, .int .u16 0]) (.agg #[.int .u16 7, .int .u16 0, .int .u16 0, .int .u16 0])).run Tryz.prog W = .ok true W := fun W => eq_arr 9998 7 0 0 0 7 0 0 0 W
     have HBF := Lib.hid (bt HB9.out hB)
     have HR11 := Lib.hid hr11
     clear hB hr11 hx11 hB10 hB11 h9 HNIL
     go_wp2_with fail
     have hs1 : SlI .u16 (w11.alloc (.cells #[.int .u16 9] 57)) (.slice ao ln cp) [9] := sli_row (row_below HR11.out (bnew _ _)) (fun z hz => by rw [List.mem_singleton] at hz; rw [hz]; decide)
     have hs2 : SlI .u16 (w11.alloc (.cells #[.int .u16 9] 57)) (.slice (some ⟨w11.heap.size, 0, none⟩) 1 1) [9] := ⟨⟨_, _, rfl, fun _ => ⟨_, 0, rfl, by simp, fun j hj => by
       have : j = 0 := by simpa using hj
       subst this
       exact cl_of (hp_new w11 _ rfl) 0⟩⟩, fun z hz => by rw [List.mem_singleton] at hz; rw [hz]; decide⟩
     have hsm := same7_any hs1 hs2 (by decide) (by decide)
     have HSM := Lib.hid hsm
     clear hs1 hs2 hsm
     refine HSM.out.mono ?_
     rintro e w12 ⟨rfl, hB12⟩
     have HBZ := Lib.hid (bt (bal HBF.out (.cells #[.int .u16 9] 57)) hB12)
     clear hB12
     go_wp2_with fail
     go_ret
     exact ⟨rfl, HBZ.out⟩
end
end Go.Proofs.YtjjphcnoegaimaaGreat
