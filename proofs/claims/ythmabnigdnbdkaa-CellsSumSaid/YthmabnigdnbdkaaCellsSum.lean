/- CellsSum: a cell to which is added alone comes to the sum. -/
import Derived.Test.YthmabnigdnbdkaaCellsOn
import Derived.Test.YthmabnigdnbdkaaSteps13
import Derived.Deep.RegionHeld3
namespace Go.Proofs.Ythmabnigdnbdkaa
open Go.RowKit
set_option maxRecDepth 100000

theorem CO.drew {w0 w : World} {p m : Nat} {on : Bool} {N : List (Int × Int)} {S : List Touch} (h : CO w0 p m on N S w) : CO w0 p m on N S w.drew := h.fr (Fr.refl _ _).drew
theorem u64_next {c : Int} (_h : (Lit.int .u64 c).wf = true) : IntKind.u64.wrap (c + 1) ≠ c := by
  rw [IntKind.wrap_u64]
  omega

set_option maxHeartbeats 4000000 in
theorem sum_walk (cell : Int) (v : Value) (ls : List Stq) {w : World} (hcw : (Lit.int .u64 cell).wf = true) (hs : SlQ w v ls) :
    Calls Try.prog 4 #[.int .u64 cell, v] w fun e w' => e = .returned (.bool true) ∧ Below w.heap.size w w' := by
  obtain ⟨⟨ao, cap, rfl, hcs⟩, hzw⟩ := hs
  have hne := u64_next hcw
  have HC := Lib.hid hcw
  clear hcw
  by_cases hlong : ls.length ≤ 300
  rotate_left
  · go_enter Try.func4, Try.ntmps4
    go_wp2_with fail
    refine (alive13 _).mono ?_
    rintro e w1 ⟨rfl, hB⟩
    go_wp2_with fail
    go_ret
    exact ⟨rfl, hB⟩
  · go_enter Try.func4, Try.ntmps4
    go_wp2_with fail
    refine (co_new w).mono ?_
    rintro e w1 ⟨p, m, rfl, h1⟩
    go_wp2_with fail
    go_loopw [6, 7] (fun v6 v7 wr => ∃ k : Nat, ∃ M : Int, ∃ N : List (Int × Int), k ≤ ls.length ∧ v7 = .int .i64 k ∧ v6 = .int .i64 M ∧ Hid (nget cell N = M) ∧ Hid (∀ j, j ≠ cell → nget j N = 0) ∧ CO w p m false N [] wr) (fun _ v7 _ => ls.length - (intOf v7).toNat)
    case atStart => exact ⟨0, 0, [], by omega, rfl, rfl, Lib.hid rfl, Lib.hid (fun _ _ => rfl), h1⟩
    case round =>
      obtain ⟨k, M, N, hk, rfl, rfl, HM, HO, hO⟩ := hrel
      clear h1
      by_cases hlt : k < ls.length
      · obtain ⟨b, off, rfl, hbl, hcell⟩ := hcs (by omega)
        obtain ⟨-, z1, -, z3⟩ := hcell k hlt
        rw [List.getD_eq_getElem?_getD, List.getElem?_eq_getElem hlt, Option.getD_some] at z1 z3
        generalize ls[k] = z at z1 z3
        obtain ⟨zo, zc, zk, zv⟩ := z
        dsimp only at z1 z3
        have y1 : ∀ W, Below w.heap.size w W → W.cell? ⟨b, off + k * 4 + 1, none⟩ = some (.int .i64 zc) := fun W hB => (hB.cell (p := ⟨b, off + k * 4 + 1, none⟩) hbl).trans z1
        have y3 : ∀ W, Below w.heap.size w W → W.cell? ⟨b, off + k * 4 + 3, none⟩ = some (.int .i64 zv) := fun W hB => (hB.cell (p := ⟨b, off + k * 4 + 3, none⟩) hbl).trans z3
        clear z1 z3 hcell hzw hcs
        have F1 := y1 _ hO.below
        have F3 := y3 _ hO.below
        go_wp2_with fail
        go_region_held3 (fun W => W.cell? ⟨b, off + k * 4 + 1, none⟩ = some (.int .i64 zc) ∧ W.cell? ⟨b, off + k * 4 + 3, none⟩ = some (.int .i64 zv)) (first | exact ⟨F1, F3⟩ | assumption | exact ⟨y1 _ (CO.below (by assumption)), y3 _ (CO.below (by assumption))⟩) (first | (go_at_call 18; ((with_reducible refine (co_add (w0 := w) (p := p) (m := m) (on := false) (N := N) (S := []) hO.drew ⟨by simp⟩ zc cell zv M HM.out rfl rfl).mono ?_); rintro e w2 ⟨rfl, hO2⟩)))
        obtain ⟨-, G3⟩ : w2.cell? ⟨b, off + k * 4 + 1, none⟩ = some (.int .i64 zc) ∧ w2.cell? ⟨b, off + k * 4 + 3, none⟩ = some (.int .i64 zv) := by assumption
        go_wp2_with fail
        go_roundw
        case rel => exact ⟨k + 1, wrap64 (M + zv), nput cell (wrap64 (M + zv)) N, by omega, by go_num, rfl, Lib.hid (by rw [nget_put, if_pos rfl]), Lib.hid (fun j hj => by rw [nget_put, if_neg hj]; exact HO.out j hj), hO2⟩
        case measure => simp [intOf]; omega
      · obtain rfl : k = ls.length := by omega
        clear hcs hzw
        have h0 := HO.out _ hne
        have H0 := Lib.hid h0
        clear h0 hne
        go_wp2_with fail
        refine (co_peek hO cell M HM.out).mono ?_
        rintro e w2 ⟨rfl, rfl⟩
        go_wp2_with fail
        refine (co_read hO ⟨by simp⟩ 0 cell M HM.out rfl).mono ?_
        rintro e w2 ⟨rfl, h2⟩
        go_wp2_with fail
        refine (co_peek h2 _ 0 H0.out).mono ?_
        rintro e w3 ⟨rfl, rfl⟩
        go_wp2_with fail
        refine (alive13 _).mono ?_
        rintro e w4 ⟨rfl, hB⟩
        go_wp2_with fail
        go_ret
        exact ⟨rfl, bt h2.below hB⟩
end Go.Proofs.Ythmabnigdnbdkaa
