/- lunettelaw03.alive: the chapter's examples. -/
import Derived.Test.YtjjphcnoegaimaaDevO
namespace Go.Proofs.Ytjjphcnoegaimaa
open Go.RowKit Go.Shelf Go.Maps
set_option maxRecDepth 20000

def al3 (a b c : ByteArray) : DS := wrS (wrS (wrS (newS 8) 3 a) 3 b) 5 c
theorem al3_loose (a b c : ByteArray) : looseOf (al3 a b c) = [3, 5] := by rfl
theorem al4_3 (a b c : ByteArray) : newest (crashS ⟨#[1]⟩ (al3 a b c)) 3 = a := by rfl
theorem al4_5 (a b c : ByteArray) : newest (crashS ⟨#[1]⟩ (al3 a b c)) 5 = zsec := by rfl
theorem sec_nil : sec ⟨#[]⟩ = zsec := by rfl
theorem u64_small {n : Int} (h0 : 0 ≤ n) (h : n < 1000000) : IntKind.u64.wrap n = n := by rw [IntKind.wrap_u64]; omega
theorem i64_small {n : Int} (h0 : -1000000 ≤ n) (h : n < 1000000) : IntKind.i64.wrap n = n := IntWalk.i64_in _ (by omega)
theorem newS_rows (n : Nat) (j : Int) : ((newS n).rows j).length = 0 := rfl
theorem wrS_rows (s : DS) (i : Int) (b : ByteArray) (j : Int) : ((wrS s i b).rows j).length ≤ (s.rows j).length + 1 := by
  unfold wrS
  dsimp only
  by_cases h : j = i
  · subst h; simp [setR_same]
  · rw [setR_other _ _ h]; omega
theorem crashS_rows (keep : ByteArray) (s : DS) (j : Int) : ((crashS keep s).rows j).length ≤ (s.rows j).length := crashL_rows keep (looseF s) 0 s j
theorem crashS_hard (keep : ByteArray) (s : DS) : (crashS keep s).hard.length = s.hard.length := crashL_hard keep (looseF s) 0 s

theorem o_down' {w0 W : World} {X : Nat → Prop} {p : Nat} {s : DS} (h : DvO w0 X p s W) (b : Bool) (hb : s.dead = b) : Calls Try.prog 24 #[.pointer (some ⟨p, 0, none⟩)] W fun e W' => e = .returned (.bool b) ∧ W = W' := by
  subst hb
  exact o_down h

set_option maxRecDepth 100000 in
set_option maxHeartbeats 4000000 in
theorem alive03_any (w : World) : Calls Try.prog 13 #[] w fun e w' => e = .returned (.bool true) ∧ Below w.heap.size w w' := by
  obtain ⟨a, ha⟩ : ∃ a, sec ⟨#[97]⟩ = a := ⟨_, rfl⟩
  obtain ⟨b, hb⟩ : ∃ b, sec ⟨#[98]⟩ = b := ⟨_, rfl⟩
  obtain ⟨c, hc⟩ : ∃ c, sec ⟨#[99]⟩ = c := ⟨_, rfl⟩
  have sa : a.size = 64 := by rw [← ha]; exact sec_size _
  have sb : b.size = 64 := by rw [← hb]; exact sec_size _
  have sc : c.size = 64 := by rw [← hc]; exact sec_size _
  have ca := sector_any ⟨#[97]⟩
  have cb := sector_any ⟨#[98]⟩
  have cc := sector_any ⟨#[99]⟩
  have cz := sector_any ⟨#[]⟩
  rw [ha] at ca
  rw [hb] at cb
  rw [hc] at cc
  rw [sec_nil] at cz
  clear ha hb hc
  have CA := Lib.hid ca
  have CB := Lib.hid cb
  have CC := Lib.hid cc
  have CZ := Lib.hid cz
  clear ca cb cc cz
  go_enter Try.func13, Try.ntmps13
  go_wp2_with fail
  refine (o_new 8 (by decide) (by decide) w w (Below.refl _ _)).mono ?_
  rintro e w1 ⟨rfl, h0, -⟩
  replace h0 := h0.less (Y := fun _ => False) (fun _ => False.elim)
  go_wp2_with fail
  refine (new_no 7 (by decide) w1).mono ?_
  rintro e w2 ⟨rfl, rfl⟩
  go_wp2_with fail
  refine (CA.out w1).mono ?_
  rintro e w2 ⟨rfl, hB⟩
  replace h0 := h0.of hB
  clear hB
  go_wp2_with fail
  refine (o_write h0 rfl 3 (by decide) a sa (by decide) (u64_small (by decide) (by decide)) (i64_small (by decide) (by decide))).mono ?_
  rintro e w3 ⟨rfl, h1, -⟩
  clear h0
  go_wp2_with fail
  refine (CB.out w3).mono ?_
  rintro e w4 ⟨rfl, hB⟩
  replace h1 := h1.of hB
  clear hB
  go_wp2_with fail
  refine (o_write h1 rfl 3 (by show 3 < 8; decide) b sb (by show (1 : Nat) < 100000; decide) (u64_small (by show (0 : Int) ≤ 1 + 1; decide) (by show (1 + 1 : Int) < 1000000; decide)) (i64_small (by show (-1000000 : Int) ≤ 0 - 1; decide) (by show (0 - 1 : Int) < 1000000; decide))).mono ?_
  rintro e w5 ⟨rfl, h2, -⟩
  clear h1
  go_wp2_with fail
  refine (CC.out w5).mono ?_
  rintro e w6 ⟨rfl, hB⟩
  replace h2 := h2.of hB
  clear hB
  go_wp2_with fail
  refine (o_write h2 rfl 5 (by show 5 < 8; decide) c sc (by show (0 : Nat) < 100000; decide) (u64_small (by show (0 : Int) ≤ 1 + 1 + 1; decide) (by show (1 + 1 + 1 : Int) < 1000000; decide)) (i64_small (by show (-1000000 : Int) ≤ 0 - 1; decide) (by show (0 - 1 : Int) < 1000000; decide))).mono ?_
  rintro e w7 ⟨rfl, h3, -⟩
  clear h2
  replace h3 : DvO w (fun _ => False) (w.heap.size + 1) (al3 a b c) w7 := h3
  go_wp2_with fail
  refine (o_loose h3).mono ?_
  rintro e w8 ⟨v, rfl, hrow, h4, -⟩
  rw [al3_loose] at hrow
  obtain ⟨g, cp, rfl, hg, hgl⟩ := hrow.form (by decide)
  have cc3 : w8.cell? ⟨g, 0, none⟩ = some (.int .i64 3) := ownsRow_cell (ownsRow_base hrow) rfl rfl
  have cc5 : w8.cell? ⟨g, 1, none⟩ = some (.int .i64 5) := ownsRow_cell (ownsRow_base hrow) rfl rfl
  go_wp2_with fail
  have hrr : ∀ j, ((al3 a b c).rows j).length ≤ 3 := by
    intro j
    refine Nat.le_trans (wrS_rows _ _ _ _) ?_
    have := wrS_rows (wrS (newS 8) 3 a) 3 b j
    have := wrS_rows (newS 8) 3 a j
    have := newS_rows 8 j
    omega
  have hr4 : ∀ j, ((crashS ⟨#[1]⟩ (al3 a b c)).rows j).length ≤ 3 := fun j => Nat.le_trans (crashS_rows _ _ _) (hrr j)
  have HRR := Lib.hid hrr
  have HR4 := Lib.hid hr4
  clear hrr hr4
  refine (o_crash h4 ⟨#[1]⟩ (fun j => Nat.le_trans (HRR.out j) (by decide))).mono ?_
  rintro e w9 ⟨rfl, h5, k1⟩
  go_wp2_with fail
  refine (o_read h5 rfl 3 (by rw [crashS_hard]; show 3 < 8; decide)).mono ?_
  rw [al4_3]
  rintro e w10 ⟨rfl, h6, k2⟩
  go_wp2_with fail
  refine (o_read h6 rfl 5 (by rw [crashS_hard]; show 5 < 8; decide)).mono ?_
  rw [al4_5]
  rintro e w11 ⟨rfl, h7, k3⟩
  go_wp2_with fail
  refine (o_fuse h7 1 (by decide)).mono ?_
  rintro e w12 ⟨rfl, h8, k4⟩
  go_wp2_with fail
  refine (CA.out w12).mono ?_
  rintro e w13 ⟨rfl, hB⟩
  have k5 := KX.of_below hB h8.lt
  replace h8 := h8.of hB
  clear hB
  go_wp2_with fail
  refine (o_write h8 rfl 0 (by show 0 < (crashS ⟨#[1]⟩ (al3 a b c)).hard.length; rw [crashS_hard]; show 0 < 8; decide) a sa (Nat.lt_of_le_of_lt (HR4.out 0) (by decide)) (u64_small (by show (0 : Int) ≤ 1 + 1 + 1 + 1; decide) (by show (1 + 1 + 1 + 1 : Int) < 1000000; decide)) (i64_small (by show (-1000000 : Int) ≤ 1 - 1; decide) (by show (1 - 1 : Int) < 1000000; decide))).mono ?_
  rintro e w14 ⟨rfl, h9, k6⟩
  go_wp2_with fail
  refine (CB.out w14).mono ?_
  rintro e w15 ⟨rfl, hB⟩
  have k7 := KX.of_below hB h9.lt
  replace h9 := h9.of hB
  clear hB
  go_wp2_with fail
  refine (write_down h9.dev rfl 0 b).mono ?_
  rintro e w16 ⟨rfl, rfl⟩
  go_wp2_with fail
  refine (o_down' h9 true rfl).mono ?_
  rintro e w16 ⟨rfl, rfl⟩
  go_wp2_with fail
  refine (o_crash h9 ⟨#[]⟩ (fun j => Nat.le_trans (wrS_rows _ _ _ _) (Nat.le_trans (Nat.succ_le_succ (HR4.out j)) (by decide)))).mono ?_
  rintro e w16 ⟨rfl, hA, k8⟩
  have kk := ((((((k1.t k2).t k3).t k4).t k5).t k6).t k7).t k8
  have e3 := (kk.cell (g := g) (.inr ⟨hg, hgl⟩) 0).trans cc3
  have e5 := (kk.cell (g := g) (.inr ⟨hg, hgl⟩) 1).trans cc5
  have hgW : g < w16.heap.size := hA.lt g (.inr ⟨hg, hgl⟩)
  have HA := Lib.hid hA
  have hA2 := hA.of (bnew w16 (.cells #[.int .i64 3, .int .i64 5] 3))
  have hsame := rsame_yes [3, 5] g cp w16.heap.size 2 (by decide) (w16.alloc (.cells #[.int .i64 3, .int .i64 5] 3))
    (fun j x hj => by
      rw [World.cell?_of_block (w := w16) (w' := w16.alloc (.cells #[.int .i64 3, .int .i64 5] 3)) (hp_old w16 _ hgW)]
      rcases j with _ | _ | j
      · cases hj; exact e3
      · cases hj; exact e5
      · simp at hj)
    (fun j x hj => by
      rw [cl_of (hp_new w16 _ rfl)]
      rcases j with _ | _ | j
      · cases hj; rfl
      · cases hj; rfl
      · simp at hj)
  have HSM := Lib.hid hsame
  have HA2 := Lib.hid hA2
  clear hsame hA2 hA h3 h4 h5 h6 h7 h8 h9 k1 k2 k3 k4 k5 k6 k7 k8 kk e3 e5 cc3 cc5 hrow
  go_wp2_with fail
  refine HSM.out.mono ?_
  rintro e w17 ⟨rfl, hB⟩
  have HA3 := Lib.hid (HA2.out.of hB)
  clear hB
  go_wp2_with fail
  refine (CA.out w17).mono ?_
  rintro e w18 ⟨rfl, hB⟩
  have HA4 := Lib.hid (HA3.out.of hB)
  clear hB
  go_wp2_with fail
  refine (CZ.out w18).mono ?_
  rintro e w19 ⟨rfl, hB⟩
  have HA5 := Lib.hid (HA4.out.of hB)
  clear hB
  go_wp2_with fail
  refine (o_down' HA5.out false rfl).mono ?_
  rintro e w20 ⟨rfl, rfl⟩
  go_wp2_with fail
  refine (write_no HA5.out.dev rfl 0 ⟨#[97]⟩ (.inr (by decide))).mono ?_
  rintro e w20 ⟨rfl, rfl⟩
  go_wp2_with fail
  go_ret
  exact ⟨rfl, HA5.out.below⟩
end Go.Proofs.Ytjjphcnoegaimaa
