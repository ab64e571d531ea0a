/- CellsApart: accesses of two cores that don't clash go past each other. -/
import Derived.Test.YthmabnigdnbdkaaActs
import Derived.Deep.QuietTactic
import Derived.Deep.RegionHeld3
import Derived.Deep.DeepCutAuto
import Derived.Deep.CutBlock
import Derived.BigQuiet
namespace Go.Proofs.Ythmabnigdnbdkaa
open Go.RowKit
set_option maxRecDepth 100000
set_option linter.unusedSimpArgs false

theorem CO.drewA {w0 w : World} {p m : Nat} {on : Bool} {N : List (Int × Int)} {S : List Touch} (h : CO w0 p m on N S w) : CO w0 p m on N S w.drew := h.fr (Fr.refl _ _).drew
/-- The cells of a step. -/
def StC (W : World) (b o : Nat) (s : Stq) : Prop := W.cell? ⟨b, o, none⟩ = some (.int .i64 s.op) ∧ W.cell? ⟨b, o + 1, none⟩ = some (.int .i64 s.core) ∧ W.cell? ⟨b, o + 2, none⟩ = some (.int .u64 s.k) ∧ W.cell? ⟨b, o + 3, none⟩ = some (.int .i64 s.v)
/-- A row's cells at a later time. -/
theorem sts_at {w : World} {ls : List Stq} {ao : Option Addr} (hcs : 0 < ls.length → ∃ b off, ao = some ⟨b, off, none⟩ ∧ b < w.heap.size ∧ ∀ i, i < ls.length →
    w.cell? ⟨b, off + i * 4, none⟩ = some (.int .i64 (ls.getD i ⟨0, 0, 0, 0⟩).op) ∧ w.cell? ⟨b, off + i * 4 + 1, none⟩ = some (.int .i64 (ls.getD i ⟨0, 0, 0, 0⟩).core) ∧
    w.cell? ⟨b, off + i * 4 + 2, none⟩ = some (.int .u64 (ls.getD i ⟨0, 0, 0, 0⟩).k) ∧ w.cell? ⟨b, off + i * 4 + 3, none⟩ = some (.int .i64 (ls.getD i ⟨0, 0, 0, 0⟩).v))
    {B : Nat} (hB : w.heap.size ≤ B) (i : Nat) (hi : i < ls.length) : ∃ b off, ao = some ⟨b, off, none⟩ ∧ b < B ∧ ∀ W, Below w.heap.size w W → StC W b (off + i * 4) ls[i] := by
  obtain ⟨b, off, e, hb, h⟩ := hcs (by omega)
  obtain ⟨z0, z1, z2, z3⟩ := h i hi
  rw [List.getD_eq_getElem?_getD, List.getElem?_eq_getElem hi, Option.getD_some] at z0 z1 z2 z3
  exact ⟨b, off, e, by omega, fun W hW => ⟨(hW.cell (p := ⟨b, _, none⟩) hb).trans z0, (hW.cell (p := ⟨b, _, none⟩) hb).trans z1, (hW.cell (p := ⟨b, _, none⟩) hb).trans z2, (hW.cell (p := ⟨b, _, none⟩) hb).trans z3⟩⟩

set_option maxHeartbeats 16000000 in
theorem apart13_walk (v0 : Value) (ls : List Stq) (v1 : Value) (lm : List Stq) (v2 : Value) (bs : List Bool) {w : World} (hs : SlQ w v0 ls) (ht : SlQ w v1 lm) (hb : SlB w v2 bs) :
    Calls Try.prog 3 #[v0, v1, v2] w fun e w' => e = .returned (.bool true) ∧ Below w.heap.size w w' := by
  obtain ⟨⟨al, cl, rfl, hcl⟩, hzl⟩ := hs
  obtain ⟨⟨am, cm, rfl, hcm⟩, hzm⟩ := ht
  obtain ⟨⟨ab, cb, rfl, hcb⟩⟩ := hb
  by_cases g1 : ls.length ≤ 100
  rotate_left
  · clear hcl hcm hcb hzl hzm
    go_enter Try.func3, Try.ntmps3
    go_wp2_with fail
    refine (alive13 _).mono ?_
    rintro e w1 ⟨rfl, hB⟩
    go_wp2_with fail
    go_ret
    exact ⟨rfl, hB⟩
  by_cases g2 : lm.length ≤ 100
  rotate_left
  · clear hcl hcm hcb hzl hzm
    go_enter Try.func3, Try.ntmps3
    go_wp2_with fail
    refine (alive13 _).mono ?_
    rintro e w1 ⟨rfl, hB⟩
    go_wp2_with fail
    go_ret
    exact ⟨rfl, hB⟩
  by_cases g3 : bs.length ≤ 300
  rotate_left
  · clear hcl hcm hcb hzl hzm
    go_enter Try.func3, Try.ntmps3
    go_wp2_with fail
    refine (alive13 _).mono ?_
    rintro e w1 ⟨rfl, hB⟩
    go_wp2_with fail
    go_ret
    exact ⟨rfl, hB⟩
  have HZL : Hid (∀ s ∈ ls, (Lit.int .u64 s.k).wf = true) := Lib.hid fun s hs => (hzl s hs).2.2.1
  have HZM : Hid (∀ s ∈ lm, (Lit.int .u64 s.k).wf = true) := Lib.hid fun s hs => (hzm s hs).2.2.1
  clear hzl hzm
  have hp1 : ∀ (k : Nat) (N : List (Int × Int)) (S : List Touch) (X : List Int) (hlt : k < ls.length), (N = arun (ls.take k) [] ∧ S = (ls.take k).map (atch 0) ∧ X = aouts (ls.take k) []) →
      True ∧ (X.length ≤ 100 ∧ S.length ≤ 100) ∧ (an ls[k] N = arun (ls.take (k + 1)) [] ∧ logged true S (atch 0 ls[k]) = (ls.take (k + 1)).map (atch 0) ∧ X ++ [ar ls[k] N] = aouts (ls.take (k + 1)) []) := by
    rintro k N S X hlt ⟨rfl, rfl, rfl⟩
    refine ⟨trivial, ⟨by rw [aouts_length]; simp; omega, by simp; omega⟩, ?_, ?_, ?_⟩
    · rw [take_snoc _ _ hlt, arun_snoc]
    · rw [take_snoc _ _ hlt, List.map_append]; rfl
    · rw [take_snoc _ _ hlt, aouts_snoc]
  have hp2 : ∀ (k : Nat) (N : List (Int × Int)) (S : List Touch) (X : List Int) (hlt : k < lm.length), (N = arun (lm.take k) (arun ls []) ∧ S = anoted ls (lm.take k) ∧ X = aouts (lm.take k) (arun ls [])) →
      True ∧ (X.length ≤ 100 ∧ S.length ≤ 200) ∧ (an lm[k] N = arun (lm.take (k + 1)) (arun ls []) ∧ logged true S (atch 1 lm[k]) = anoted ls (lm.take (k + 1)) ∧ X ++ [ar lm[k] N] = aouts (lm.take (k + 1)) (arun ls [])) := by
    rintro k N S X hlt ⟨rfl, rfl, rfl⟩
    refine ⟨trivial, ⟨by rw [aouts_length]; simp; omega, by simp [anoted]; omega⟩, ?_, ?_, ?_⟩
    · rw [take_snoc _ _ hlt, arun_snoc]
    · rw [take_snoc _ _ hlt]; unfold anoted; rw [List.map_append, ← List.append_assoc]; rfl
    · rw [take_snoc _ _ hlt, aouts_snoc]
  have HP1 := Lib.hid hp1
  have HP2 := Lib.hid hp2
  clear hp1 hp2
  go_enter Try.func3, Try.ntmps3
  go_wp2_with fail
  refine (co_new w).mono ?_
  rintro e w1 ⟨p, m, rfl, h1⟩
  go_wp2_with fail
  refine (co_note h1 true).mono ?_
  rintro e w2 ⟨rfl, h2⟩
  clear h1
  obtain ⟨i0, hi, hz0, hz1, hz2⟩ := info_parts Try.infoI64
  go_wp2_with fail
  go_loopw [8, 10] (fun u v10 wr => ∃ k : Nat, ∃ N : List (Int × Int), ∃ S : List Touch, ∃ X : List Int, k ≤ ls.length ∧ v10 = .int .i64 k ∧ CO w p m true N S wr ∧ wr.ownsRow w.heap.size 2 1 u X.length (X.map (Value.int .i64)) ∧ Hid (N = arun (ls.take k) [] ∧ S = (ls.take k).map (atch 0) ∧ X = aouts (ls.take k) [])) (fun _ v10 _ => ls.length - (intOf v10).toNat)
  case atStart => exact ⟨0, [], [], [], by omega, rfl, h2, World.ownsRow_nil _ _ _ _, Lib.hid ⟨rfl, rfl, rfl⟩⟩
  case round =>
    obtain ⟨k, N, S, X, hk, rfl, hO, hrow, HN⟩ := hrel
    clear h2
    by_cases hlt : k < ls.length
    · obtain ⟨b, off, rfl, hbl, hcell⟩ := sts_at (ao := al) hcl hO.below.size k hlt
      obtain ⟨z0, z1, z2, z3⟩ := hcell _ hO.below
      obtain ⟨hsn, hs2, hs3⟩ := HP1.out k N S X hlt HN.out
      generalize ls[k] = z at z0 z1 z2 z3 hsn hs2 hs3
      obtain ⟨zo, zc, zk, zv⟩ := z
      dsimp only at z0 z1 z2 z3
      have HS2 := Lib.hid hs2
      have HS3 := Lib.hid hs3
      have hX : X.length ≤ 100 := hs2.1
      have hfew : Few S := ⟨by have := hs2.2; omega⟩
      clear hcell hs2 hs3 hsn hbl
      go_wp2_with fail
      obtain ⟨c, hc⟩ : ∃ c, ar ⟨zo, zc, zk, zv⟩ N = c := ⟨_, rfl⟩
      refine (act4 hO hfew zo zc zk zv 0 hc rfl rfl).mono ?_
      rintro e w6 ⟨rfl, h6, hk6, hs6⟩
      have hrow6 : w6.ownsRow w.heap.size 2 1 u8 X.length (X.map (Value.int .i64)) := ownsRowB_of_block hrow (fun j hj => by
        obtain ⟨cur, hb⟩ := ownsRow_type (ownsRowB_zero hrow) hj
        exact hk6 j _ _ _ hb (by decide) (by decide))
      clear hrow hO z0 z1 z2 z3 hk6
      obtain ⟨ag, cg, hu, -⟩ := own_form (ownsRowB_zero hrow6)
      subst hu
      have hle7 : w.heap.size ≤ w6.heap.size := h6.below.size
      have hl2 : X.length + 1 ≤ maxLen := by unfold maxLen; omega
      have HC := Lib.hid hc
      clear hc
      go_wp2_with (at_builtin; refine wpList_append_own _ rfl _ _ 28 rfl w.heap.size 2 i0 (.int .i64 0) 1 8 Try.underlying28 hi hz0 hz1 hz2 rfl (by decide) _ _ _ rfl (hrow6.alloc _) ⟨w6.heap.size, 0, none⟩ 1 1 [.int .i64 c] rfl rfl (Go.cell_one_new _ _ _) (by simp [Value.oneCell']) hl2 (by omega) (by simp; omega) ?_)
      intro v' w8 hown' hgrow _
      have h8 := (h6.fr (frm_alloc (Fr.refl _ w6) (.cells #[.int .i64 c] 2))).away (Fr.of_grownBy hgrow) (fun l e => by
        refine ⟨((hrow6.alloc (.cells #[.int .i64 c] 2)).lt l e.symm).1, ?_⟩
        obtain ⟨cur, hb'⟩ := ownsRow_type (ownsRowB_zero (hrow6.alloc (.cells #[.int .i64 c] 2))) e.symm
        exact ⟨cur, _, _, hb', by decide, by decide⟩)
      have hs8 : w6.heap.size ≤ w8.heap.size := by have := hgrow.size; simp at this; omega
      clear hrow6 h6 hgrow hi hz0 hz1 hz2 hl2
      go_wp2_with fail
      go_roundw
      case rel => exact ⟨k + 1, _, _, X ++ [c], by omega, by go_num, h8, by simpa using hown', Lib.hid (by rw [← HC.out]; exact HS3.out)⟩
      case measure => simp [intOf]; omega
    · obtain rfl : k = ls.length := by omega
      clear hlt hk
      obtain ⟨rfl, rfl, rfl⟩ := HN.out
      rw [List.take_length] at hO hrow
      obtain ⟨X, hXe⟩ : ∃ X, aouts ls [] = X := ⟨_, rfl⟩
      obtain ⟨N1, hN1⟩ : ∃ N1, arun ls [] = N1 := ⟨_, rfl⟩
      obtain ⟨S1, hS1⟩ : ∃ S1, ls.map (atch 0) = S1 := ⟨_, rfl⟩
      rw [hXe] at hrow
      rw [hN1, hS1] at hO
      have hst : anoted ls (lm.take 0) = S1 := by rw [← hS1]; simp [anoted]
      have HST : Hid (N1 = arun (lm.take 0) (arun ls []) ∧ S1 = anoted ls (lm.take 0) ∧ ([] : List Int) = aouts (lm.take 0) (arun ls [])) := Lib.hid ⟨hN1.symm, hst.symm, rfl⟩
      have HXE := Lib.hid hXe
      have HXL : Hid (X.length = ls.length) := Lib.hid (by rw [← hXe, aouts_length])
      obtain ⟨n1, hn1⟩ : ∃ n1, X.length = n1 := ⟨_, rfl⟩
      clear HN hN1 hS1 hst hXe hn1
      have hxB0 : ∀ j, u8.ownBlock = some j → j < wr.heap.size := fun j hj => ownsRow_ltb hrow hj
      have hBw := hO.below.size
      obtain ⟨wo, rfl⟩ : ∃ wo : World, wo = wr := ⟨_, rfl⟩
      obtain ⟨B, hB⟩ : ∃ B, wo.heap.size = B := ⟨_, rfl⟩
      have hBo : B ≤ wo.heap.size := by omega
      have hxB : ∀ j, u8.ownBlock = some j → j < B := fun j hj => by rw [← hB]; exact hxB0 j hj
      have hBw' : w.heap.size ≤ B := by omega
      clear hB hxB0 hBw
      have hBw := hBw'
      clear hBw'
      have hxr := hrow
      obtain ⟨ax, cx, hux, -⟩ := own_form (ownsRowB_zero hrow)
      clear hrow
      subst hux
      generalize hxv : (Value.slice ax X.length cx) = xv at hxr hxB
      have HXV := Lib.hid hxv
      clear hxv
      go_wp2_with fail
      go_loopw [9, 12] (fun u v12 wr => ∃ k : Nat, ∃ N : List (Int × Int), ∃ S : List Touch, ∃ X2 : List Int, k ≤ lm.length ∧ v12 = .int .i64 k ∧ CO w p m true N S wr ∧ wr.ownsRow B 2 1 u X2.length (X2.map (Value.int .i64)) ∧ wr.ownsRow w.heap.size 2 1 xv X.length (X.map (Value.int .i64)) ∧ B ≤ wr.heap.size ∧ Hid (N = arun (lm.take k) (arun ls []) ∧ S = anoted ls (lm.take k) ∧ X2 = aouts (lm.take k) (arun ls []))) (fun _ v12 _ => lm.length - (intOf v12).toNat)
      case atStart => exact ⟨0, N1, S1, [], by omega, rfl, hO, World.ownsRow_nil _ _ _ _, hxr, hBo, HST⟩
      case round =>
        clear hO hxr hBo HST
        obtain ⟨k, N, S, X2, hk, rfl, hO, hrow, hx, hBr, HN⟩ := hrel
        by_cases hlt : k < lm.length
        · obtain ⟨b, off, rfl, hbl, hcell⟩ := sts_at (ao := am) hcm hO.below.size k hlt
          obtain ⟨z0, z1, z2, z3⟩ := hcell _ hO.below
          obtain ⟨hsn, hs2, hs3⟩ := HP2.out k N S X2 hlt HN.out
          generalize lm[k] = z at z0 z1 z2 z3 hsn hs2 hs3
          obtain ⟨zo, zc, zk, zv⟩ := z
          dsimp only at z0 z1 z2 z3
          have HS2 := Lib.hid hs2
          have HS3 := Lib.hid hs3
          have hX : X2.length ≤ 100 := hs2.1
          have hfew : Few S := ⟨by have := hs2.2; omega⟩
          clear hcell hs2 hs3 hsn hbl
          go_wp2_with fail
          obtain ⟨c, hc⟩ : ∃ c, ar ⟨zo, zc, zk, zv⟩ N = c := ⟨_, rfl⟩
          refine (act4 hO hfew zo zc zk zv 1 hc rfl rfl).mono ?_
          rintro e w6 ⟨rfl, h6, hk6, hs6⟩
          have hrow6 : w6.ownsRow B 2 1 u9 X2.length (X2.map (Value.int .i64)) := ownsRowB_of_block hrow (fun j hj => by
            obtain ⟨cur, hb⟩ := ownsRow_type (ownsRowB_zero hrow) hj
            exact hk6 j _ _ _ hb (by decide) (by decide))
          have hx6 := ownsRowB_of_block (W' := w6) hx (fun j hj => by
            obtain ⟨cur, hb⟩ := ownsRow_type (ownsRowB_zero hx) hj
            exact hk6 j _ _ _ hb (by decide) (by decide))
          clear hx
          clear hrow hO z0 z1 z2 z3 hk6
          obtain ⟨ag, cg, hu, -⟩ := own_form (ownsRowB_zero hrow6)
          subst hu
          have hle7 : B ≤ w6.heap.size := by omega
          have hl2 : X2.length + 1 ≤ maxLen := by unfold maxLen; omega
          have HC := Lib.hid hc
          clear hc
          go_wp2_with (at_builtin; refine wpList_append_own _ rfl _ _ 28 rfl B 2 i0 (.int .i64 0) 1 8 Try.underlying28 hi hz0 hz1 hz2 rfl (by decide) _ _ _ rfl (hrow6.alloc _) ⟨w6.heap.size, 0, none⟩ 1 1 [.int .i64 c] rfl rfl (Go.cell_one_new _ _ _) (by simp [Value.oneCell']) hl2 (by omega) (by simp; omega) ?_)
          intro v' w8 hown' hgrow _
          have h8 := (h6.fr (frm_alloc (Fr.refl _ w6) (.cells #[.int .i64 c] 2))).away (Fr.of_grownBy hgrow) (fun l e => by
            refine ⟨Nat.le_trans hBw ((hrow6.alloc (.cells #[.int .i64 c] 2)).lt l e.symm).1, ?_⟩
            obtain ⟨cur, hb'⟩ := ownsRow_type (ownsRowB_zero (hrow6.alloc (.cells #[.int .i64 c] 2))) e.symm
            exact ⟨cur, _, _, hb', by decide, by decide⟩)
          have hx8 := ownsRowB_of_block (W' := w8) (hx6.alloc (.cells #[.int .i64 c] 2)) (fun j hj => hgrow.block j (by have := ownsRow_ltb (hx6.alloc (.cells #[.int .i64 c] 2)) hj; exact this) (fun e => by
            have h1 := ((hrow6.alloc (.cells #[.int .i64 c] 2)).lt j e.symm).1
            have h2 := hxB j hj
            omega))
          clear hx6
          have hs8 : w6.heap.size ≤ w8.heap.size := by have := hgrow.size; simp at this; omega
          clear hrow6 h6 hgrow hi hz0 hz1 hz2 hl2
          go_wp2_with fail
          go_roundw
          case rel => exact ⟨k + 1, _, _, X2 ++ [c], by omega, by go_num, h8, by simpa using hown', hx8, by omega, Lib.hid (by rw [← HC.out]; exact HS3.out)⟩
          case measure => simp [intOf]; omega
        · obtain rfl : k = lm.length := by omega
          clear hlt hk
          obtain ⟨rfl, rfl, rfl⟩ := HN.out
          rw [List.take_length] at hO hrow
          clear HN hi hz0 hz1 hz2 HP1 HP2
          obtain ⟨SW, hSW⟩ := anoted_sw HZL.out HZM.out
          have hsl : SW.length ≤ 200 := by
            have := congrArg List.length hSW
            simp [anoted] at this
            omega
          rw [← hSW] at hO
          obtain ⟨sv, hc, hk⟩ := hO.ex
          have hM := cagg_length (a := 0) (b := 1) (by decide) SW
          have HSW := Lib.hid hSW
          clear hSW
          go_wp2_with fail
          refine (clash_any hc ⟨by simp; omega⟩ 0 1 (by decide) (by omega)).mono ?_
          rintro e w9 ⟨v9, cs9, rfl, he9, hr9, hb9⟩
          have HE9 := Lib.hid he9
          have hO9 := hO.below' hb9
          obtain ⟨ao9, cap9, rfl, -⟩ := own_form (ownsRowB_zero hr9)
          clear he9 hM hc hk hr9
          by_cases hcs0 : 0 < cs9.length
          · clear hrow hx hO
            go_wp2_with fail
            refine (alive13 _).mono ?_
            rintro e w10 ⟨rfl, hB⟩
            go_wp2_with fail
            go_ret
            exact ⟨rfl, bt hO9.below hB⟩
          · have hcs1 : cs9.length = 0 := by omega
            have hcs2 : cs9 = [] := List.eq_nil_of_length_eq_zero hcs1
            have HApt := Lib.hid (apt_of HSW.out (by first | exact HE9.out.trans hcs2 | exact HE9.out.symm.trans hcs2))
            clear hcs0 HE9 
            subst hcs2
            obtain ⟨Y, hYe⟩ : ∃ Y, aouts lm (arun ls []) = Y := ⟨_, rfl⟩
            rw [hYe] at hrow
            have HYE := Lib.hid hYe
            have HYL : Hid (Y.length = lm.length) := Lib.hid (by rw [← hYe, aouts_length])
            clear hYe hcs1
            obtain ⟨ay, cy, hyv, hgy⟩ := own_form (ownsRowB_zero hrow)
            obtain ⟨ax', cx', hxv2, hgx⟩ := own_form (ownsRowB_zero hx)
            have hxe := HXV.out.trans hxv2
            simp only [Value.slice.injEq, true_and] at hxe
            obtain ⟨rfl, rfl⟩ := hxe
            have hgx9 : 0 < X.length → ∃ g, ax = some ⟨g, 0, none⟩ ∧ ∀ (j : Nat) (v : Value), (X.map (Value.int .i64))[j]? = some v → ∀ W, Below w9.heap.size w9 W → W.cell? ⟨g, j, none⟩ = some v := fun h => by
              obtain ⟨g, e, _, hl, hc⟩ := hgx h
              have h2 := hb9.size
              exact ⟨g, e, fun j v hj W hW => (hW.cell (p := ⟨g, j, none⟩) (by show g < _; omega)).trans ((hb9.cell (p := ⟨g, j, none⟩) hl).trans (hc j v hj))⟩
            have hgy9 : 0 < Y.length → ∃ g, ay = some ⟨g, 0, none⟩ ∧ ∀ (j : Nat) (v : Value), (Y.map (Value.int .i64))[j]? = some v → ∀ W, Below w9.heap.size w9 W → W.cell? ⟨g, j, none⟩ = some v := fun h => by
              obtain ⟨g, e, _, hl, hc⟩ := hgy h
              have h2 := hb9.size
              exact ⟨g, e, fun j v hj W hW => (hW.cell (p := ⟨g, j, none⟩) (by show g < _; omega)).trans ((hb9.cell (p := ⟨g, j, none⟩) hl).trans (hc j v hj))⟩
            subst hyv hxv2
            clear hgx hgy hrow hx hO hb9 hxB HXV hBr hBw
            have HGX := Lib.hid hgx9
            have HGY := Lib.hid hgy9
            clear hgx9 hgy9
            go_wp2_with fail
            refine (co_new w9).mono ?_
            rintro e w10 ⟨p2, m2, rfl, h10⟩
            have HSTA := Lib.hid (AI.start HApt.out)
            go_wp2_with fail
            go_loopw [15, 16, 17] (fun v15 v16 v17 wr => ∃ i k n : Nat, ∃ N : List (Int × Int), i ≤ ls.length ∧ k ≤ lm.length ∧ v15 = .int .i64 i ∧ v16 = .int .i64 k ∧ v17 = .int .i64 n ∧ Hid (n = i + k) ∧ CO w9 p2 m2 false N [] wr ∧ Hid (AI ls lm i k N)) (fun _ _ v17 _ => ls.length + lm.length - (intOf v17).toNat)
            case atStart => exact ⟨0, 0, 0, [], by omega, by omega, rfl, rfl, rfl, Lib.hid rfl, h10, HSTA⟩
            case round =>
              obtain ⟨i, k, n, N, hil, hkm, rfl, rfl, rfl, HNK, hO, HAI⟩ := hrel
              clear h10 HSTA
              by_cases hileft : i < ls.length
              · go_upto_region 27 with (fail)
                go_cut [18] (fun s18 wx => ∃ fb : Bool, s18 = .bool fb ∧ wx = wr)
                case first =>
                  by_cases hn : n < bs.length
                  · obtain ⟨b, off, rfl, hbl, hcell⟩ := hcb (by omega)
                    have z0 := ((bt hO9.below hO.below).cell (p := ⟨b, off + n, none⟩) hbl).trans (hcell n hn)
                    generalize bs.getD n false = fb at z0
                    clear hcell hcl hcm hcb
                    go_wp2_with fail
                    go_meet
                    exact ⟨_, rfl, rfl⟩
                  · clear hcl hcm hcb
                    go_wp2_with fail
                    go_meet
                    exact ⟨_, rfl, rfl⟩
                case rest =>
                  obtain ⟨fb, rfl, rfl⟩ := hcut
                  cases fb
                  · by_cases hiright : k < lm.length
                    · obtain ⟨hxi, hAI⟩ := AI.right HApt.out HAI.out hiright
                      obtain ⟨b, off, rfl, -, hcell⟩ := sts_at (ao := am) hcm (Nat.le_refl _) k hiright
                      obtain ⟨g, rfl, hgc⟩ := HGY.out (by rw [HYL.out]; omega)
                      have hn2 : n ≤ 200 := by have := HNK.out; omega
                      have hn3 : n < ls.length + lm.length := by have := HNK.out; omega
                      have hix : k < Y.length := by rw [HYL.out]; exact hiright
                      have hxc := hgc k _ (by rw [List.getElem?_map, ← HYE.out, hxi]; rfl)
                      have HAI2 := Lib.hid hAI
                      clear hAI hxi hgc
                      generalize lm[k] = z at hcell HAI2 hxc
                      obtain ⟨zo, zc, zk, zv⟩ := z
                      obtain ⟨c, hc⟩ : ∃ c, ar ⟨zo, zc, zk, zv⟩ N = c := ⟨_, rfl⟩
                      rw [hc] at hxc
                      have y : ∀ W, Below w9.heap.size w9 W → (W.cell? ⟨b, off + k * 4, none⟩ = some (.int .i64 zo) ∧ W.cell? ⟨b, off + k * 4 + 1, none⟩ = some (.int .i64 zc) ∧ W.cell? ⟨b, off + k * 4 + 2, none⟩ = some (.int .u64 zk) ∧ W.cell? ⟨b, off + k * 4 + 3, none⟩ = some (.int .i64 zv)) ∧ W.cell? ⟨g, k, none⟩ = some (.int .i64 c) := fun W hB => ⟨hcell W (bt hO9.below hB), hxc W hB⟩
                      clear hcell hxc hcl hcm hcb
                      obtain ⟨⟨y0, y1, y2, y3⟩, y4⟩ := y _ hO.below
                      have HC := Lib.hid hc
                      have HY := Lib.hid y
                      clear hc y
                      have hcc : (c != c) = false := by simp
                      go_wp2_with fail
                      first | (go_region_held3 (fun W => W.cell? ⟨b, off + k * 4, none⟩ = some (.int .i64 zo) ∧ W.cell? ⟨b, off + k * 4 + 1, none⟩ = some (.int .i64 zc) ∧ W.cell? ⟨b, off + k * 4 + 2, none⟩ = some (.int .u64 zk) ∧ W.cell? ⟨b, off + k * 4 + 3, none⟩ = some (.int .i64 zv) ∧ W.cell? ⟨g, k, none⟩ = some (.int .i64 c)) (first | exact ⟨y0, y1, y2, y3, y4⟩ | assumption | exact (have hh := HY.out _ (CO.below (by assumption)); ⟨hh.1.1, hh.1.2.1, hh.1.2.2.1, hh.1.2.2.2, hh.2⟩)) (first | (go_at_call 15; ((with_reducible refine (act4 (w0 := w9) (p := p2) (m := m2) (on := false) (N := N) (S := []) (S' := []) (by first | exact hO | exact hO.drewA) few0 zo zc zk zv 1 HC.out rfl rfl).mono ?_); rintro e w12 ⟨rfl, hO12, hk12, hs12⟩))))

                      go_wp2_with fail
                      go_roundw
                      case rel => exact ⟨i, k + 1, n + 1, _, by omega, by omega, rfl, by go_num, by go_num, Lib.hid (by have := HNK.out; omega), hO12, HAI2⟩
                      case measure => simp [intOf]; omega
                    · obtain ⟨hxi, hAI⟩ := AI.left HApt.out HAI.out hileft
                      obtain ⟨b, off, rfl, -, hcell⟩ := sts_at (ao := al) hcl (Nat.le_refl _) i hileft
                      obtain ⟨g, rfl, hgc⟩ := HGX.out (by rw [HXL.out]; omega)
                      have hn2 : n ≤ 200 := by have := HNK.out; omega
                      have hn3 : n < ls.length + lm.length := by have := HNK.out; omega
                      have hix : i < X.length := by rw [HXL.out]; exact hileft
                      have hxc := hgc i _ (by rw [List.getElem?_map, ← HXE.out, hxi]; rfl)
                      have HAI2 := Lib.hid hAI
                      clear hAI hxi hgc
                      generalize ls[i] = z at hcell HAI2 hxc
                      obtain ⟨zo, zc, zk, zv⟩ := z
                      obtain ⟨c, hc⟩ : ∃ c, ar ⟨zo, zc, zk, zv⟩ N = c := ⟨_, rfl⟩
                      rw [hc] at hxc
                      have y : ∀ W, Below w9.heap.size w9 W → (W.cell? ⟨b, off + i * 4, none⟩ = some (.int .i64 zo) ∧ W.cell? ⟨b, off + i * 4 + 1, none⟩ = some (.int .i64 zc) ∧ W.cell? ⟨b, off + i * 4 + 2, none⟩ = some (.int .u64 zk) ∧ W.cell? ⟨b, off + i * 4 + 3, none⟩ = some (.int .i64 zv)) ∧ W.cell? ⟨g, i, none⟩ = some (.int .i64 c) := fun W hB => ⟨hcell W (bt hO9.below hB), hxc W hB⟩
                      clear hcell hxc hcl hcm hcb
                      obtain ⟨⟨y0, y1, y2, y3⟩, y4⟩ := y _ hO.below
                      have HC := Lib.hid hc
                      have HY := Lib.hid y
                      clear hc y
                      have hcc : (c != c) = false := by simp
                      go_wp2_with fail
                      first | (go_region_held3 (fun W => W.cell? ⟨b, off + i * 4, none⟩ = some (.int .i64 zo) ∧ W.cell? ⟨b, off + i * 4 + 1, none⟩ = some (.int .i64 zc) ∧ W.cell? ⟨b, off + i * 4 + 2, none⟩ = some (.int .u64 zk) ∧ W.cell? ⟨b, off + i * 4 + 3, none⟩ = some (.int .i64 zv) ∧ W.cell? ⟨g, i, none⟩ = some (.int .i64 c)) (first | exact ⟨y0, y1, y2, y3, y4⟩ | assumption | exact (have hh := HY.out _ (CO.below (by assumption)); ⟨hh.1.1, hh.1.2.1, hh.1.2.2.1, hh.1.2.2.2, hh.2⟩)) (first | (go_at_call 15; ((with_reducible refine (act4 (w0 := w9) (p := p2) (m := m2) (on := false) (N := N) (S := []) (S' := []) (by first | exact hO | exact hO.drewA) few0 zo zc zk zv 0 HC.out rfl rfl).mono ?_); rintro e w12 ⟨rfl, hO12, hk12, hs12⟩))))

                      go_wp2_with fail
                      go_roundw
                      case rel => exact ⟨i + 1, k, n + 1, _, by omega, by omega, by go_num, rfl, by go_num, Lib.hid (by have := HNK.out; omega), hO12, HAI2⟩
                      case measure => simp [intOf]; omega
                  · obtain ⟨hxi, hAI⟩ := AI.left HApt.out HAI.out hileft
                    obtain ⟨b, off, rfl, -, hcell⟩ := sts_at (ao := al) hcl (Nat.le_refl _) i hileft
                    obtain ⟨g, rfl, hgc⟩ := HGX.out (by rw [HXL.out]; omega)
                    have hn2 : n ≤ 200 := by have := HNK.out; omega
                    have hn3 : n < ls.length + lm.length := by have := HNK.out; omega
                    have hix : i < X.length := by rw [HXL.out]; exact hileft
                    have hxc := hgc i _ (by rw [List.getElem?_map, ← HXE.out, hxi]; rfl)
                    have HAI2 := Lib.hid hAI
                    clear hAI hxi hgc
                    generalize ls[i] = z at hcell HAI2 hxc
                    obtain ⟨zo, zc, zk, zv⟩ := z
                    obtain ⟨c, hc⟩ : ∃ c, ar ⟨zo, zc, zk, zv⟩ N = c := ⟨_, rfl⟩
                    rw [hc] at hxc
                    have y : ∀ W, Below w9.heap.size w9 W → (W.cell? ⟨b, off + i * 4, none⟩ = some (.int .i64 zo) ∧ W.cell? ⟨b, off + i * 4 + 1, none⟩ = some (.int .i64 zc) ∧ W.cell? ⟨b, off + i * 4 + 2, none⟩ = some (.int .u64 zk) ∧ W.cell? ⟨b, off + i * 4 + 3, none⟩ = some (.int .i64 zv)) ∧ W.cell? ⟨g, i, none⟩ = some (.int .i64 c) := fun W hB => ⟨hcell W (bt hO9.below hB), hxc W hB⟩
                    clear hcell hxc hcl hcm hcb
                    obtain ⟨⟨y0, y1, y2, y3⟩, y4⟩ := y _ hO.below
                    have HC := Lib.hid hc
                    have HY := Lib.hid y
                    clear hc y
                    have hcc : (c != c) = false := by simp
                    go_wp2_with fail
                    first | (go_region_held3 (fun W => W.cell? ⟨b, off + i * 4, none⟩ = some (.int .i64 zo) ∧ W.cell? ⟨b, off + i * 4 + 1, none⟩ = some (.int .i64 zc) ∧ W.cell? ⟨b, off + i * 4 + 2, none⟩ = some (.int .u64 zk) ∧ W.cell? ⟨b, off + i * 4 + 3, none⟩ = some (.int .i64 zv) ∧ W.cell? ⟨g, i, none⟩ = some (.int .i64 c)) (first | exact ⟨y0, y1, y2, y3, y4⟩ | assumption | exact (have hh := HY.out _ (CO.below (by assumption)); ⟨hh.1.1, hh.1.2.1, hh.1.2.2.1, hh.1.2.2.2, hh.2⟩)) (first | (go_at_call 15; ((with_reducible refine (act4 (w0 := w9) (p := p2) (m := m2) (on := false) (N := N) (S := []) (S' := []) (by first | exact hO | exact hO.drewA) few0 zo zc zk zv 0 HC.out rfl rfl).mono ?_); rintro e w12 ⟨rfl, hO12, hk12, hs12⟩))))

                    go_wp2_with fail
                    go_roundw
                    case rel => exact ⟨i + 1, k, n + 1, _, by omega, by omega, by go_num, rfl, by go_num, Lib.hid (by have := HNK.out; omega), hO12, HAI2⟩
                    case measure => simp [intOf]; omega
              · by_cases hiright : k < lm.length
                · go_upto_region 27 with (fail)
                  go_cut [18] (fun s18 wx => ∃ fb : Bool, s18 = .bool fb ∧ wx = wr)
                  case first =>
                    by_cases hn : n < bs.length
                    · obtain ⟨b, off, rfl, hbl, hcell⟩ := hcb (by omega)
                      have z0 := ((bt hO9.below hO.below).cell (p := ⟨b, off + n, none⟩) hbl).trans (hcell n hn)
                      generalize bs.getD n false = fb at z0
                      clear hcell hcl hcm hcb
                      go_wp2_with fail
                      go_meet
                      exact ⟨_, rfl, rfl⟩
                    · clear hcl hcm hcb
                      go_wp2_with fail
                      go_meet
                      exact ⟨_, rfl, rfl⟩
                  case rest =>
                    obtain ⟨fb, rfl, rfl⟩ := hcut
                    obtain ⟨hxi, hAI⟩ := AI.right HApt.out HAI.out hiright
                    obtain ⟨b, off, rfl, -, hcell⟩ := sts_at (ao := am) hcm (Nat.le_refl _) k hiright
                    obtain ⟨g, rfl, hgc⟩ := HGY.out (by rw [HYL.out]; omega)
                    have hn2 : n ≤ 200 := by have := HNK.out; omega
                    have hn3 : n < ls.length + lm.length := by have := HNK.out; omega
                    have hix : k < Y.length := by rw [HYL.out]; exact hiright
                    have hxc := hgc k _ (by rw [List.getElem?_map, ← HYE.out, hxi]; rfl)
                    have HAI2 := Lib.hid hAI
                    clear hAI hxi hgc
                    generalize lm[k] = z at hcell HAI2 hxc
                    obtain ⟨zo, zc, zk, zv⟩ := z
                    obtain ⟨c, hc⟩ : ∃ c, ar ⟨zo, zc, zk, zv⟩ N = c := ⟨_, rfl⟩
                    rw [hc] at hxc
                    have y : ∀ W, Below w9.heap.size w9 W → (W.cell? ⟨b, off + k * 4, none⟩ = some (.int .i64 zo) ∧ W.cell? ⟨b, off + k * 4 + 1, none⟩ = some (.int .i64 zc) ∧ W.cell? ⟨b, off + k * 4 + 2, none⟩ = some (.int .u64 zk) ∧ W.cell? ⟨b, off + k * 4 + 3, none⟩ = some (.int .i64 zv)) ∧ W.cell? ⟨g, k, none⟩ = some (.int .i64 c) := fun W hB => ⟨hcell W (bt hO9.below hB), hxc W hB⟩
                    clear hcell hxc hcl hcm hcb
                    obtain ⟨⟨y0, y1, y2, y3⟩, y4⟩ := y _ hO.below
                    have HC := Lib.hid hc
                    have HY := Lib.hid y
                    clear hc y
                    have hcc : (c != c) = false := by simp
                    go_wp2_with fail
                    first | (go_region_held3 (fun W => W.cell? ⟨b, off + k * 4, none⟩ = some (.int .i64 zo) ∧ W.cell? ⟨b, off + k * 4 + 1, none⟩ = some (.int .i64 zc) ∧ W.cell? ⟨b, off + k * 4 + 2, none⟩ = some (.int .u64 zk) ∧ W.cell? ⟨b, off + k * 4 + 3, none⟩ = some (.int .i64 zv) ∧ W.cell? ⟨g, k, none⟩ = some (.int .i64 c)) (first | exact ⟨y0, y1, y2, y3, y4⟩ | assumption | exact (have hh := HY.out _ (CO.below (by assumption)); ⟨hh.1.1, hh.1.2.1, hh.1.2.2.1, hh.1.2.2.2, hh.2⟩)) (first | (go_at_call 15; ((with_reducible refine (act4 (w0 := w9) (p := p2) (m := m2) (on := false) (N := N) (S := []) (S' := []) (by first | exact hO | exact hO.drewA) few0 zo zc zk zv 1 HC.out rfl rfl).mono ?_); rintro e w12 ⟨rfl, hO12, hk12, hs12⟩))))

                    go_wp2_with fail
                    go_roundw
                    case rel => exact ⟨i, k + 1, n + 1, _, by omega, by omega, rfl, by go_num, by go_num, Lib.hid (by have := HNK.out; omega), hO12, HAI2⟩
                    case measure => simp [intOf]; omega
                · obtain rfl : i = ls.length := by omega
                  obtain rfl : k = lm.length := by omega
                  obtain ⟨hd1, hd2⟩ := AI.done HApt.out HAI.out
                  have HDl := Lib.hid hd1
                  have HDm := Lib.hid hd2
                  clear hd1 hd2 HAI HNK
                  go_wp2_with fail
                  go_loopw [19] (fun v wr => ∃ j : Nat, j ≤ ls.length ∧ v = .int .i64 j ∧ CO w9 p2 m2 false N [] wr) (fun v _ => ls.length - (intOf v).toNat)
                  case atStart => exact ⟨0, by omega, rfl, hO⟩
                  case round =>
                    obtain ⟨j, hj, rfl, hO1⟩ := hrel
                    clear hO
                    by_cases hlt : j < ls.length
                    · obtain ⟨b, off, rfl, -, hcell⟩ := sts_at (ao := al) hcl (Nat.le_refl _) j hlt
                      have hsm := HDl.out _ (List.getElem_mem hlt)
                      generalize ls[j] = z at hcell hsm
                      obtain ⟨zo, zc, zk, zv⟩ := z
                      obtain ⟨-, -, z2, -⟩ := hcell _ (bt hO9.below hO1.below)
                      dsimp only at z2 hsm
                      have HC9 := Lib.hid (hO9.below' hO1.below)
                      have HO1 := Lib.hid hO1
                      have HSM := Lib.hid hsm
                      clear hcell hsm hO1 hcl hcm hcb hO9
                      obtain ⟨c, hc⟩ : ∃ c, nget zk N = c := ⟨_, rfl⟩
                      have HC := Lib.hid hc
                      clear hc
                      have HPK : Hid (∀ q n : Nat, (q = p ∨ q = p2) → Calls Try.prog 17 #[.pointer (some ⟨q, 0, none⟩), .int .u64 zk] (wr.drewN n) fun e w' => e = .returned (.int .i64 c) ∧ w' = wr.drewN n) := Lib.hid (by
                        rintro q n (rfl | rfl)
                        · exact (co_peek (HC9.out.fr (fr_drewN _ _)) zk c (HSM.out.trans HC.out)).mono (fun e w' ⟨he, hw⟩ => ⟨he, hw.symm⟩)
                        · exact (co_peek (HO1.out.fr (fr_drewN _ _)) zk c HC.out).mono (fun e w' ⟨he, hw⟩ => ⟨he, hw.symm⟩))
                      have hcc : (c != c) = false := by simp
                      go_wp2_with fail
                      go_quiet ((go_at_call 17; exact Calls.quiet_of_same (HPK.out _ _ (by first | exact Or.inl rfl | exact Or.inr rfl))))
                      go_wp2_with fail
                      go_roundw
                      case rel => exact ⟨j + 1, by omega, by go_num, HO1.out.fr (fr_drewN _ _)⟩
                      case measure => simp [intOf]; omega
                    · obtain rfl : j = ls.length := by omega
                      have hO := hO1
                      clear hO1 hlt
                      go_wp2_with fail
                      go_loopw [20] (fun v wr => ∃ j : Nat, j ≤ lm.length ∧ v = .int .i64 j ∧ CO w9 p2 m2 false N [] wr) (fun v _ => lm.length - (intOf v).toNat)
                      case atStart => exact ⟨0, by omega, rfl, hO⟩
                      case round =>
                        obtain ⟨j, hj, rfl, hO1⟩ := hrel
                        clear hO
                        by_cases hlt : j < lm.length
                        · obtain ⟨b, off, rfl, -, hcell⟩ := sts_at (ao := am) hcm (Nat.le_refl _) j hlt
                          have hsm := HDm.out _ (List.getElem_mem hlt)
                          generalize lm[j] = z at hcell hsm
                          obtain ⟨zo, zc, zk, zv⟩ := z
                          obtain ⟨-, -, z2, -⟩ := hcell _ (bt hO9.below hO1.below)
                          dsimp only at z2 hsm
                          have HC9 := Lib.hid (hO9.below' hO1.below)
                          have HO1 := Lib.hid hO1
                          have HSM := Lib.hid hsm
                          clear hcell hsm hO1 hcl hcm hcb hO9
                          obtain ⟨c, hc⟩ : ∃ c, nget zk N = c := ⟨_, rfl⟩
                          have HC := Lib.hid hc
                          clear hc
                          have HPK : Hid (∀ q n : Nat, (q = p ∨ q = p2) → Calls Try.prog 17 #[.pointer (some ⟨q, 0, none⟩), .int .u64 zk] (wr.drewN n) fun e w' => e = .returned (.int .i64 c) ∧ w' = wr.drewN n) := Lib.hid (by
                            rintro q n (rfl | rfl)
                            · exact (co_peek (HC9.out.fr (fr_drewN _ _)) zk c (HSM.out.trans HC.out)).mono (fun e w' ⟨he, hw⟩ => ⟨he, hw.symm⟩)
                            · exact (co_peek (HO1.out.fr (fr_drewN _ _)) zk c HC.out).mono (fun e w' ⟨he, hw⟩ => ⟨he, hw.symm⟩))
                          have hcc : (c != c) = false := by simp
                          go_wp2_with fail
                          go_quiet ((go_at_call 17; exact Calls.quiet_of_same (HPK.out _ _ (by first | exact Or.inl rfl | exact Or.inr rfl))))
                          go_wp2_with fail
                          go_roundw
                          case rel => exact ⟨j + 1, by omega, by go_num, HO1.out.fr (fr_drewN _ _)⟩
                          case measure => simp [intOf]; omega
                        · obtain rfl : j = lm.length := by omega
                          have hO := hO1
                          clear hO1 hlt
                          go_wp2_with fail
                          refine (alive13 _).mono ?_
                          rintro e w10 ⟨rfl, hB⟩
                          go_wp2_with fail
                          go_ret
                          exact ⟨rfl, bt (bt hO9.below hO.below) hB⟩
end Go.Proofs.Ythmabnigdnbdkaa
