/- CellsPlay: what cells have, what was noted, and where two cores clash, whatever is done. -/
import Derived.Test.YthmabnigdnbdkaaDuoC
import Derived.Test.YthmabnigdnbdkaaNoCells
import Derived.Deep.DeepCutAuto
import Derived.Deep.CutBlock
import Derived.Deep.RegionHeld3
import Derived.BigQuiet
namespace Go.Proofs.Ythmabnigdnbdkaa
open Go.RowKit
set_option maxRecDepth 100000
set_option linter.unusedSimpArgs false
set_option linter.unusedVariables false

def logw (on : Bool) (SW : List TW) (t : TW) : List TW := if on then SW ++ [t] else SW
theorem logw_map (on : Bool) (SW : List TW) (t : TW) : logged on (SW.map Subtype.val) t.1 = (logw on SW t).map Subtype.val := by
  unfold logged logw
  split <;> simp
theorem logw_len (on : Bool) (SW : List TW) (t : TW) : (logw on SW t).length ≤ SW.length + 1 := by
  unfold logw
  split <;> simp
theorem same_put13 {N L : List (Int × Int)} (h : ∀ j, nget j N = nget j L) (c v : Int) : ∀ j, nget j (nput c v N) = nget j (lset c v L) := fun j => by rw [nget_put, nget_lset, h]
theorem kt_cell13 {w W : World} {b : Nat} {cs : Array Value} (h : w.heap[b]? = some (.cells cs 32 (0, 0))) (k : Kt2 w W) (i : Nat) : W.cell? ⟨b, i, none⟩ = cs[i]? :=
  cl_of ((k b _ _ _ h (by decide) (by decide) (by decide) (by decide)).trans h) i
theorem Duo.robj {w0 w : World} {p m q : Nat} {on on2 : Bool} {N L : List (Int × Int)} {S S2 : List Touch} (h : Duo w0 p m q on N S on2 L S2 w) : ∃ vL vS, w.heap[q]? = some (.cells #[vL, vS, .bool on2] 44 (0, 0)) := by
  obtain ⟨sv, vL, vS, -, hr, -⟩ := h.ex
  exact ⟨vL, vS, hr.obj⟩
theorem lset_len (k v : Int) (L : List (Int × Int)) : (lset k v L).length ≤ L.length + 1 := lset_length k v L
theorem cellsplay_start {w w1 : World} {p m : Nat} (hB : Below w.heap.size w w1) (hc : CellsAt w1 p m (.slice none 0 0) false [] []) (hp : w.heap.size ≤ p) (hm : w.heap.size ≤ m) :
    Duo w p m w1.heap.size false [] [] false [] [] (w1.alloc (.cells #[.slice none 0 0, .slice none 0 0, .bool false] 44 (0, 0))) := by
  refine Duo.start hc ?_ hB rfl
  rintro k (rfl | rfl | hg)
  · exact hp
  · exact hm
  · cases hg

set_option maxHeartbeats 16000000 in
theorem cellsplay_walk (v : Value) (ls : List Stq) (cell a b : Int) {w : World} (hs : SlQ w v ls) (_hwc : (Lit.int .u64 cell).wf = true) (_hwa : (Lit.int .i64 a).wf = true) (_hwb : (Lit.int .i64 b).wf = true) :
    Calls Try.prog 5 #[v, .int .u64 cell, .int .i64 a, .int .i64 b] w fun e w' => e = .returned (.bool true) ∧ Below w.heap.size w w' := by
  obtain ⟨⟨ao, cap, rfl, hcs⟩, hzw⟩ := hs
  clear _hwc _hwa _hwb
  by_cases hlong : ls.length ≤ 150
  rotate_left
  · go_enter Try.func5, Try.ntmps5
    go_wp2_with fail
    refine (alive13 _).mono ?_
    rintro e w1 ⟨rfl, hB⟩
    go_wp2_with fail
    go_ret
    exact ⟨rfl, hB⟩
  · go_enter Try.func5, Try.ntmps5
    go_wp2_with fail
    refine (cells_new _).mono ?_
    rintro e w1 ⟨p0, m0, rfl, hc, hb, hp, hm⟩
    go_wp2_with fail
    refine (nothing13 _).mono ?_
    rintro e w2 ⟨rfl, hw2⟩
    subst hw2
    go_wp2_with fail
    have hP := cellsplay_start hb hc hp hm
    clear hc hb hp hm
    obtain ⟨q, hq⟩ : ∃ q, w1.heap.size = q := ⟨_, rfl⟩
    rw [hq] at hP ⊢
    have HQ := Lib.hid hq
    clear hq
    go_loopw [9, 11] (fun v9 v11 wr => ∃ (k p m : Nat) (on : Bool) (N L : List (Int × Int)) (SW : List TW), k ≤ ls.length ∧ v9 = .pointer (some ⟨p, 0, none⟩) ∧ v11 = .int .i64 k ∧ Hid ((∀ j, nget j N = nget j L) ∧ L.length ≤ k ∧ SW.length ≤ k) ∧ Duo w p m q on N (SW.map Subtype.val) on L (SW.map Subtype.val) wr) (fun _ v11 _ => ls.length - (intOf v11).toNat)
    case atStart => exact ⟨0, p0, m0, false, [], [], [], by omega, rfl, rfl, Lib.hid ⟨fun _ => rfl, by simp, by simp⟩, hP⟩
    case round =>
      obtain ⟨k, p, m, on, N, L, SW, hk, rfl, rfl, HN, hO⟩ := hrel
      clear hP HQ
      by_cases hlt : k < ls.length
      · obtain ⟨bb, off, rfl, hbl, hcell⟩ := hcs (by omega)
        obtain ⟨z0, z1, z2, z3⟩ := hcell k hlt
        have hwk : (Lit.int .u64 ls[k].k).wf = true := (hzw _ (List.getElem_mem hlt)).2.2.1
        rw [List.getD_eq_getElem?_getD, List.getElem?_eq_getElem hlt, Option.getD_some] at z0 z1 z2 z3
        generalize ls[k] = z at z0 z1 z2 z3 hwk
        obtain ⟨zo, zc, zk, zv⟩ := z
        dsimp only at z0 z1 z2 z3 hwk
        have HWK := Lib.hid hwk
        clear hcs hcell hzw hwk
        have hB := hO.below
        have y0 := (hB.cell (p := ⟨bb, off + k * 4, none⟩) hbl).trans z0
        have y1 := (hB.cell (p := ⟨bb, off + k * 4 + 1, none⟩) hbl).trans z1
        have y2 := (hB.cell (p := ⟨bb, off + k * 4 + 2, none⟩) hbl).trans z2
        have y3 := (hB.cell (p := ⟨bb, off + k * 4 + 3, none⟩) hbl).trans z3
        clear z0 z1 z2 z3
        have hlen : SW.length ≤ 150 := by have := HN.out.2.2; omega
        have hll : L.length ≤ 150 := by have := HN.out.2.1; omega
        have hn : Few (SW.map Subtype.val) := ⟨by simp; omega⟩
        have HLG := Lib.hid (fun b : Bool => logw_map on SW ⟨⟨zc, zk, b⟩, HWK.out⟩)
        have HLL := Lib.hid (fun b : Bool => logw_len on SW ⟨⟨zc, zk, b⟩, HWK.out⟩)
        go_upto_block 2 with (fail)
        go_cut [9, 13] (fun s9 s13 wx => ∃ (p' m' : Nat) (on' : Bool) (N' L' : List (Int × Int)) (SW' : List TW), s9 = .pointer (some ⟨p', 0, none⟩) ∧ s13 = .bool true ∧ Hid ((∀ j, nget j N' = nget j L') ∧ L'.length ≤ k + 1 ∧ SW'.length ≤ k + 1) ∧ Duo w p' m' q on' N' (SW'.map Subtype.val) on' L' (SW'.map Subtype.val) wx ∧ wx.heap[wr.heap.size]? = some (.cells #[.int .i64 zo, .int .i64 zc, .int .u64 zk, .int .i64 zv] 32 (0, 0)))
        case first =>
          have hbx := hp_new wr (.cells #[.int .i64 zo, .int .i64 zc, .int .u64 zk, .int .i64 zv] 32 (0, 0)) rfl
          have h5 := hO.fr ((Fr.refl _ _).alloc (.cells #[.int .i64 zo, .int .i64 zc, .int .u64 zk, .int .i64 zv] 32 (0, 0)))
          have B1 := cl_of hbx 1
          have B2 := cl_of hbx 2
          have B3 := cl_of hbx 3
          by_cases o0 : zo = 0
          · subst o0
            have hv0 : nget zk L = nget zk N := (HN.out.1 _).symm
            go_wp2_with fail
            go_region_held3 (fun W => W.cell? ⟨wr.heap.size, 1, none⟩ = some (.int .i64 zc) ∧ W.cell? ⟨wr.heap.size, 2, none⟩ = some (.int .u64 zk)) (first | exact ⟨B1, B2⟩ | assumption | exact ⟨kt_cell13 hbx (by assumption) 1, kt_cell13 hbx (by assumption) 2⟩) (first | (go_at_call 19; refine (dd_read (by first | exact h5 | exact h5.drew) hn zc zk).mono ?_; rintro e w6 ⟨rfl, h6, k6⟩) | (go_at_call 21; refine (dd_rread (by first | exact h6 | exact h6.drew) hn (by omega) zc zk).mono ?_; rw [hv0]; rintro e w7 ⟨rfl, h7, k7⟩; replace k7 := Kt2.trans k6 k7))
            first | (rename_i hK; refine hK _ _ ?_; clear hK) | (rename_i hK _; refine hK _ _ ?_; clear hK) | (rename_i hK _ _; refine hK _ _ ?_; clear hK) | (rename_i hK _ _ _; refine hK _ _ ?_; clear hK) | (rename_i hK _ _ _ _; refine hK _ _ ?_; clear hK) | (rename_i hK _ _ _ _ _; refine hK _ _ ?_; clear hK) | (rename_i hK _ _ _ _ _ _; refine hK _ _ ?_; clear hK) | (rename_i hK _ _ _ _ _ _ _; refine hK _ _ ?_; clear hK) | (rename_i hK _ _ _ _ _ _ _ _; refine hK _ _ ?_; clear hK) | (rename_i hK _ _ _ _ _ _ _ _ _; refine hK _ _ ?_; clear hK) | (rename_i hK _ _ _ _ _ _ _ _ _ _; refine hK _ _ ?_; clear hK) | (rename_i hK _ _ _ _ _ _ _ _ _ _ _; refine hK _ _ ?_; clear hK) | (rename_i hK _ _ _ _ _ _ _ _ _ _ _ _; refine hK _ _ ?_; clear hK) | (rename_i hK _ _ _ _ _ _ _ _ _ _ _ _ _; refine hK _ _ ?_; clear hK) | (rename_i hK _ _ _ _ _ _ _ _ _ _ _ _ _ _; refine hK _ _ ?_; clear hK) | (rename_i hK _ _ _ _ _ _ _ _ _ _ _ _ _ _ _; refine hK _ _ ?_; clear hK) | (rename_i hK _ _ _ _ _ _ _ _ _ _ _ _ _ _ _ _; refine hK _ _ ?_; clear hK) | (rename_i hK _ _ _ _ _ _ _ _ _ _ _ _ _ _ _ _ _; refine hK _ _ ?_; clear hK) | (rename_i hK _ _ _ _ _ _ _ _ _ _ _ _ _ _ _ _ _ _; refine hK _ _ ?_; clear hK) | (rename_i hK _ _ _ _ _ _ _ _ _ _ _ _ _ _ _ _ _ _ _; refine hK _ _ ?_; clear hK) | (rename_i hK _ _ _ _ _ _ _ _ _ _ _ _ _ _ _ _ _ _ _ _; refine hK _ _ ?_; clear hK) | (rename_i hK _ _ _ _ _ _ _ _ _ _ _ _ _ _ _ _ _ _ _ _ _; refine hK _ _ ?_; clear hK) | (rename_i hK _ _ _ _ _ _ _ _ _ _ _ _ _ _ _ _ _ _ _ _ _ _; refine hK _ _ ?_; clear hK) | (rename_i hK _ _ _ _ _ _ _ _ _ _ _ _ _ _ _ _ _ _ _ _ _ _ _; refine hK _ _ ?_; clear hK) | (rename_i hK _ _ _ _ _ _ _ _ _ _ _ _ _ _ _ _ _ _ _ _ _ _ _ _; refine hK _ _ ?_; clear hK) | (rename_i hK _ _ _ _ _ _ _ _ _ _ _ _ _ _ _ _ _ _ _ _ _ _ _ _ _; refine hK _ _ ?_; clear hK) | (rename_i hK _ _ _ _ _ _ _ _ _ _ _ _ _ _ _ _ _ _ _ _ _ _ _ _ _ _; refine hK _ _ ?_; clear hK) | (rename_i hK _ _ _ _ _ _ _ _ _ _ _ _ _ _ _ _ _ _ _ _ _ _ _ _ _ _ _; refine hK _ _ ?_; clear hK) | (rename_i hK _ _ _ _ _ _ _ _ _ _ _ _ _ _ _ _ _ _ _ _ _ _ _ _ _ _ _ _; refine hK _ _ ?_; clear hK) | (rename_i hK _ _ _ _ _ _ _ _ _ _ _ _ _ _ _ _ _ _ _ _ _ _ _ _ _ _ _ _ _; refine hK _ _ ?_; clear hK) | (rename_i hK _ _ _ _ _ _ _ _ _ _ _ _ _ _ _ _ _ _ _ _ _ _ _ _ _ _ _ _ _ _; refine hK _ _ ?_; clear hK) | (rename_i hK _ _ _ _ _ _ _ _ _ _ _ _ _ _ _ _ _ _ _ _ _ _ _ _ _ _ _ _ _ _ _; refine hK _ _ ?_; clear hK) | (rename_i hK _ _ _ _ _ _ _ _ _ _ _ _ _ _ _ _ _ _ _ _ _ _ _ _ _ _ _ _ _ _ _ _; refine hK _ _ ?_; clear hK) | (rename_i hK _ _ _ _ _ _ _ _ _ _ _ _ _ _ _ _ _ _ _ _ _ _ _ _ _ _ _ _ _ _ _ _ _; refine hK _ _ ?_; clear hK) | (rename_i hK _ _ _ _ _ _ _ _ _ _ _ _ _ _ _ _ _ _ _ _ _ _ _ _ _ _ _ _ _ _ _ _ _ _; refine hK _ _ ?_; clear hK) | (rename_i hK _ _ _ _ _ _ _ _ _ _ _ _ _ _ _ _ _ _ _ _ _ _ _ _ _ _ _ _ _ _ _ _ _ _ _; refine hK _ _ ?_; clear hK) | (rename_i hK _ _ _ _ _ _ _ _ _ _ _ _ _ _ _ _ _ _ _ _ _ _ _ _ _ _ _ _ _ _ _ _ _ _ _ _; refine hK _ _ ?_; clear hK) | (rename_i hK _ _ _ _ _ _ _ _ _ _ _ _ _ _ _ _ _ _ _ _ _ _ _ _ _ _ _ _ _ _ _ _ _ _ _ _ _; refine hK _ _ ?_; clear hK) | (rename_i hK _ _ _ _ _ _ _ _ _ _ _ _ _ _ _ _ _ _ _ _ _ _ _ _ _ _ _ _ _ _ _ _ _ _ _ _ _ _; refine hK _ _ ?_; clear hK) | (rename_i hK _ _ _ _ _ _ _ _ _ _ _ _ _ _ _ _ _ _ _ _ _ _ _ _ _ _ _ _ _ _ _ _ _ _ _ _ _ _ _; refine hK _ _ ?_; clear hK)
            rw [HLG.out false] at h7
            go_wp2_with fail
            go_meet
            have bx7 := (k7 wr.heap.size _ _ _ hbx (by decide) (by decide) (by decide) (by decide)).trans hbx
            refine ⟨p, m, on, N, L, (logw on SW ⟨⟨zc, zk, false⟩, HWK.out⟩), rfl, by first | rfl | simp, Lib.hid ⟨HN.out.1, ?_, ?_⟩, h7, bx7⟩
            · have := HN.out.2.1; omega
            · have := HN.out.2.2; have := HLL.out false; omega
          · by_cases o1 : zo = 1
            · subst o1
              go_wp2_with fail
              refine (dd_write h5 hn zc zk zv).mono ?_
              rintro e w6 ⟨rfl, h6, k6⟩
              have bx6 := (k6 wr.heap.size _ _ _ hbx (by decide) (by decide) (by decide) (by decide)).trans hbx
              have D1 := cl_of bx6 1
              have D2 := cl_of bx6 2
              have D3 := cl_of bx6 3
              go_wp2_with fail
              refine (dd_rwrite h6 hn (by omega) zc zk zv).mono ?_
              rintro e w7 ⟨rfl, h7, k7⟩
              replace k7 := Kt2.trans k6 k7
              rw [HLG.out true] at h7
              go_wp2_with fail
              go_meet
              have bx7 := (k7 wr.heap.size _ _ _ hbx (by decide) (by decide) (by decide) (by decide)).trans hbx
              refine ⟨p, m, on, _, _, (logw on SW ⟨⟨zc, zk, true⟩, HWK.out⟩), rfl, by first | rfl | simp, Lib.hid ⟨same_put13 HN.out.1 _ _, ?_, ?_⟩, h7, bx7⟩
              · have := HN.out.2.1; have := lset_len zk zv L; omega
              · have := HN.out.2.2; have := HLL.out true; omega
            · by_cases o2 : zo = 2
              · subst o2
                have hv0 : nget zk L = nget zk N := (HN.out.1 _).symm
                go_wp2_with fail
                go_region_held3 (fun W => W.cell? ⟨wr.heap.size, 1, none⟩ = some (.int .i64 zc) ∧ W.cell? ⟨wr.heap.size, 2, none⟩ = some (.int .u64 zk) ∧ W.cell? ⟨wr.heap.size, 3, none⟩ = some (.int .i64 zv)) (first | exact ⟨B1, B2, B3⟩ | assumption | exact ⟨kt_cell13 hbx (by assumption) 1, kt_cell13 hbx (by assumption) 2, kt_cell13 hbx (by assumption) 3⟩) (first | (go_at_call 18; refine (dd_add (by first | exact h5 | exact h5.drew) hn zc zk zv).mono ?_; rintro e w6 ⟨rfl, h6, k6⟩) | (go_at_call 24; refine (dd_radd (by first | exact h6 | exact h6.drew) hn (by omega) zc zk zv).mono ?_; rw [hv0]; rintro e w7 ⟨rfl, h7, k7⟩; replace k7 := Kt2.trans k6 k7))
                first | (rename_i hK; refine hK _ _ ?_; clear hK) | (rename_i hK _; refine hK _ _ ?_; clear hK) | (rename_i hK _ _; refine hK _ _ ?_; clear hK) | (rename_i hK _ _ _; refine hK _ _ ?_; clear hK) | (rename_i hK _ _ _ _; refine hK _ _ ?_; clear hK) | (rename_i hK _ _ _ _ _; refine hK _ _ ?_; clear hK) | (rename_i hK _ _ _ _ _ _; refine hK _ _ ?_; clear hK) | (rename_i hK _ _ _ _ _ _ _; refine hK _ _ ?_; clear hK) | (rename_i hK _ _ _ _ _ _ _ _; refine hK _ _ ?_; clear hK) | (rename_i hK _ _ _ _ _ _ _ _ _; refine hK _ _ ?_; clear hK) | (rename_i hK _ _ _ _ _ _ _ _ _ _; refine hK _ _ ?_; clear hK) | (rename_i hK _ _ _ _ _ _ _ _ _ _ _; refine hK _ _ ?_; clear hK) | (rename_i hK _ _ _ _ _ _ _ _ _ _ _ _; refine hK _ _ ?_; clear hK) | (rename_i hK _ _ _ _ _ _ _ _ _ _ _ _ _; refine hK _ _ ?_; clear hK) | (rename_i hK _ _ _ _ _ _ _ _ _ _ _ _ _ _; refine hK _ _ ?_; clear hK) | (rename_i hK _ _ _ _ _ _ _ _ _ _ _ _ _ _ _; refine hK _ _ ?_; clear hK) | (rename_i hK _ _ _ _ _ _ _ _ _ _ _ _ _ _ _ _; refine hK _ _ ?_; clear hK) | (rename_i hK _ _ _ _ _ _ _ _ _ _ _ _ _ _ _ _ _; refine hK _ _ ?_; clear hK) | (rename_i hK _ _ _ _ _ _ _ _ _ _ _ _ _ _ _ _ _ _; refine hK _ _ ?_; clear hK) | (rename_i hK _ _ _ _ _ _ _ _ _ _ _ _ _ _ _ _ _ _ _; refine hK _ _ ?_; clear hK) | (rename_i hK _ _ _ _ _ _ _ _ _ _ _ _ _ _ _ _ _ _ _ _; refine hK _ _ ?_; clear hK) | (rename_i hK _ _ _ _ _ _ _ _ _ _ _ _ _ _ _ _ _ _ _ _ _; refine hK _ _ ?_; clear hK) | (rename_i hK _ _ _ _ _ _ _ _ _ _ _ _ _ _ _ _ _ _ _ _ _ _; refine hK _ _ ?_; clear hK) | (rename_i hK _ _ _ _ _ _ _ _ _ _ _ _ _ _ _ _ _ _ _ _ _ _ _; refine hK _ _ ?_; clear hK) | (rename_i hK _ _ _ _ _ _ _ _ _ _ _ _ _ _ _ _ _ _ _ _ _ _ _ _; refine hK _ _ ?_; clear hK) | (rename_i hK _ _ _ _ _ _ _ _ _ _ _ _ _ _ _ _ _ _ _ _ _ _ _ _ _; refine hK _ _ ?_; clear hK) | (rename_i hK _ _ _ _ _ _ _ _ _ _ _ _ _ _ _ _ _ _ _ _ _ _ _ _ _ _; refine hK _ _ ?_; clear hK) | (rename_i hK _ _ _ _ _ _ _ _ _ _ _ _ _ _ _ _ _ _ _ _ _ _ _ _ _ _ _; refine hK _ _ ?_; clear hK) | (rename_i hK _ _ _ _ _ _ _ _ _ _ _ _ _ _ _ _ _ _ _ _ _ _ _ _ _ _ _ _; refine hK _ _ ?_; clear hK) | (rename_i hK _ _ _ _ _ _ _ _ _ _ _ _ _ _ _ _ _ _ _ _ _ _ _ _ _ _ _ _ _; refine hK _ _ ?_; clear hK) | (rename_i hK _ _ _ _ _ _ _ _ _ _ _ _ _ _ _ _ _ _ _ _ _ _ _ _ _ _ _ _ _ _; refine hK _ _ ?_; clear hK) | (rename_i hK _ _ _ _ _ _ _ _ _ _ _ _ _ _ _ _ _ _ _ _ _ _ _ _ _ _ _ _ _ _ _; refine hK _ _ ?_; clear hK) | (rename_i hK _ _ _ _ _ _ _ _ _ _ _ _ _ _ _ _ _ _ _ _ _ _ _ _ _ _ _ _ _ _ _ _; refine hK _ _ ?_; clear hK) | (rename_i hK _ _ _ _ _ _ _ _ _ _ _ _ _ _ _ _ _ _ _ _ _ _ _ _ _ _ _ _ _ _ _ _ _; refine hK _ _ ?_; clear hK) | (rename_i hK _ _ _ _ _ _ _ _ _ _ _ _ _ _ _ _ _ _ _ _ _ _ _ _ _ _ _ _ _ _ _ _ _ _; refine hK _ _ ?_; clear hK) | (rename_i hK _ _ _ _ _ _ _ _ _ _ _ _ _ _ _ _ _ _ _ _ _ _ _ _ _ _ _ _ _ _ _ _ _ _ _; refine hK _ _ ?_; clear hK) | (rename_i hK _ _ _ _ _ _ _ _ _ _ _ _ _ _ _ _ _ _ _ _ _ _ _ _ _ _ _ _ _ _ _ _ _ _ _ _; refine hK _ _ ?_; clear hK) | (rename_i hK _ _ _ _ _ _ _ _ _ _ _ _ _ _ _ _ _ _ _ _ _ _ _ _ _ _ _ _ _ _ _ _ _ _ _ _ _; refine hK _ _ ?_; clear hK) | (rename_i hK _ _ _ _ _ _ _ _ _ _ _ _ _ _ _ _ _ _ _ _ _ _ _ _ _ _ _ _ _ _ _ _ _ _ _ _ _ _; refine hK _ _ ?_; clear hK) | (rename_i hK _ _ _ _ _ _ _ _ _ _ _ _ _ _ _ _ _ _ _ _ _ _ _ _ _ _ _ _ _ _ _ _ _ _ _ _ _ _ _; refine hK _ _ ?_; clear hK)
                rw [HLG.out true] at h7
                go_wp2_with fail
                go_meet
                have bx7 := (k7 wr.heap.size _ _ _ hbx (by decide) (by decide) (by decide) (by decide)).trans hbx
                refine ⟨p, m, on, _, _, (logw on SW ⟨⟨zc, zk, true⟩, HWK.out⟩), rfl, by first | rfl | simp, Lib.hid ⟨same_put13 HN.out.1 _ _, ?_, ?_⟩, h7, bx7⟩
                · have := HN.out.2.1; have := lset_len zk (wrap64 (nget zk N + zv)) L; omega
                · have := HN.out.2.2; have := HLL.out true; omega
              · by_cases o3 : zo = 3
                · subst o3
                  by_cases hz : zv = 0
                  · subst hz
                    go_wp2_with fail
                    refine (dd_note h5 false).mono ?_
                    rintro e w6 ⟨rfl, h6, k6⟩
                    have bx6 := (k6 wr.heap.size _ _ _ hbx (by decide) (by decide) (by decide) (by decide)).trans hbx
                    have D3 := cl_of bx6 3
                    obtain ⟨vL, vS, ho⟩ := h6.robj
                    have c2 := cl_of ho 2
                    have f2 := fz_of ho 2
                    clear ho
                    go_wp2_with fail
                    obtain ⟨h7, k7⟩ := h6.ron false
                    replace k7 := Kt2.trans k6 k7
                    go_wp2_with fail
                    go_meet
                    have bx7 := (k7 wr.heap.size _ _ _ hbx (by decide) (by decide) (by decide) (by decide)).trans hbx
                    refine ⟨p, m, false, N, L, SW, rfl, by first | rfl | simp, Lib.hid ⟨HN.out.1, ?_, ?_⟩, h7, bx7⟩
                    · have := HN.out.2.1; omega
                    · have := HN.out.2.2; omega
                  · have ez : (zv == 0) = false := by simpa using hz
                    have ez2 : (zv != 0) = true := by simpa using hz
                    go_wp2_with fail
                    refine (dd_note h5 true).mono ?_
                    rintro e w6 ⟨rfl, h6, k6⟩
                    have bx6 := (k6 wr.heap.size _ _ _ hbx (by decide) (by decide) (by decide) (by decide)).trans hbx
                    have D3 := cl_of bx6 3
                    obtain ⟨vL, vS, ho⟩ := h6.robj
                    have c2 := cl_of ho 2
                    have f2 := fz_of ho 2
                    clear ho
                    go_wp2_with fail
                    obtain ⟨h7, k7⟩ := h6.ron true
                    replace k7 := Kt2.trans k6 k7
                    go_wp2_with fail
                    go_meet
                    have bx7 := (k7 wr.heap.size _ _ _ hbx (by decide) (by decide) (by decide) (by decide)).trans hbx
                    refine ⟨p, m, true, N, L, SW, rfl, by first | rfl | simp, Lib.hid ⟨HN.out.1, ?_, ?_⟩, h7, bx7⟩
                    · have := HN.out.2.1; omega
                    · have := HN.out.2.2; omega
                · by_cases o4 : zo = 4
                  · subst o4
                    go_wp2_with fail
                    refine (dd_forget h5).mono ?_
                    rintro e w6 ⟨rfl, h6, k6⟩
                    obtain ⟨vL, vS, ho⟩ := h6.robj
                    have c1 := cl_of ho 1
                    have f1 := fz_of ho 1
                    clear ho
                    go_wp2_with fail
                    obtain ⟨h7, k7⟩ := h6.rnil
                    replace k7 := Kt2.trans k6 k7
                    go_wp2_with fail
                    go_meet
                    have bx7 := (k7 wr.heap.size _ _ _ hbx (by decide) (by decide) (by decide) (by decide)).trans hbx
                    refine ⟨p, m, on, N, L, [], rfl, by first | rfl | simp, Lib.hid ⟨HN.out.1, ?_, ?_⟩, h7, bx7⟩
                    · have := HN.out.2.1; omega
                    · simp
                  · by_cases o5 : zo = 5
                    · subst o5
                      go_wp2_with fail
                      refine (dd_copy h5 hn).mono ?_
                      rintro e w6 ⟨p', m', rfl, h6, k6⟩
                      have bx6 := (k6 wr.heap.size _ _ _ hbx (by decide) (by decide) (by decide) (by decide)).trans hbx
                      have D1 := cl_of bx6 1
                      have D2 := cl_of bx6 2
                      go_wp2_with fail
                      refine (cpy_write h6 hn zc zk 99).mono ?_
                      rintro e w7 ⟨rfl, h7, k7⟩
                      replace k7 := Kt2.trans k6 k7
                      go_wp2_with fail
                      refine (cpy_forget h7).mono ?_
                      rintro e w8 ⟨rfl, h8, k8⟩
                      replace k7 := Kt2.trans k7 k8
                      go_wp2_with fail
                      go_meet
                      have bx7 := (k7 wr.heap.size _ _ _ hbx (by decide) (by decide) (by decide) (by decide)).trans hbx
                      refine ⟨p', m', on, N, L, SW, rfl, by first | rfl | simp, Lib.hid ⟨HN.out.1, ?_, ?_⟩, h8, bx7⟩
                      · have := HN.out.2.1; omega
                      · have := HN.out.2.2; omega
                    · go_wp2_with fail
                      go_meet
                      refine ⟨p, m, on, N, L, SW, rfl, by first | rfl | simp, Lib.hid ⟨HN.out.1, ?_, ?_⟩, h5, hbx⟩
                      · have := HN.out.2.1; omega
                      · have := HN.out.2.2; omega
        case rest =>
          obtain ⟨p', m', on', N', L', SW', rfl, rfl, HN', h6, box⟩ := hcut
          have hs' := HN'.out.1
          have hl' : L'.length ≤ 10000 := by have := HN'.out.2.1; omega
          have hn' : Few (SW'.map Subtype.val) := ⟨by have := HN'.out.2.2; simp; omega⟩
          obtain ⟨aS, cS, q1, hrowS, hqlt⟩ := h6.row
          have b2 := cl_of box 2
          have fk : ∀ W, Fr (fun _ => False) wc W → W.cell? ⟨q, 1, none⟩ = some (.slice aS (SW'.map Subtype.val).length cS) ∧ W.cell? ⟨wr.heap.size, 2, none⟩ = some (.int .u64 zk) := fun W hF => ⟨(hF.cell (p := ⟨q, 1, none⟩) hqlt id).trans q1, (hF.cell (p := ⟨wr.heap.size, 2, none⟩) (Array.getElem?_eq_some_iff.1 box).1 id).trans b2⟩
          have F0 : Fr (fun _ => False) wc wc := Fr.refl _ _
          have F1 : Fr (fun _ => False) wc wc.drew := F0.drew
          generalize hSQ : SW'.map Subtype.val = S' at *
          have HSQ := Lib.hid hSQ
          clear hSQ
          go_wp2_with fail
          go_region_held3 (fun W => W.cell? ⟨q, 1, none⟩ = some (.slice aS S'.length cS) ∧ W.cell? ⟨wr.heap.size, 2, none⟩ = some (.int .u64 zk)) (first | assumption | exact fk _ (by assumption)) (first | (go_at_call 17; refine (dd_peek h6 (by assumption) _).mono ?_; rintro e w' ⟨rfl, hF⟩) | (go_at_call 27; refine (dd_rpeek h6 hl' hs' (by assumption) _).mono ?_; rintro e w' ⟨rfl, hF⟩) | (go_at_call 29; refine (dd_seen h6 hn' (by assumption)).mono ?_; rintro e w' ⟨ao', cap', rfl, hrow, hF⟩) | (go_at_call 28; refine (dd_same hn' hrowS (by assumption) (by assumption)).mono ?_; rintro e w' ⟨rfl, hF⟩))
          first | (rename_i hK; refine hK _ _ ?_; clear hK) | (rename_i hK _; refine hK _ _ ?_; clear hK) | (rename_i hK _ _; refine hK _ _ ?_; clear hK) | (rename_i hK _ _ _; refine hK _ _ ?_; clear hK) | (rename_i hK _ _ _ _; refine hK _ _ ?_; clear hK) | (rename_i hK _ _ _ _ _; refine hK _ _ ?_; clear hK) | (rename_i hK _ _ _ _ _ _; refine hK _ _ ?_; clear hK) | (rename_i hK _ _ _ _ _ _ _; refine hK _ _ ?_; clear hK) | (rename_i hK _ _ _ _ _ _ _ _; refine hK _ _ ?_; clear hK) | (rename_i hK _ _ _ _ _ _ _ _ _; refine hK _ _ ?_; clear hK) | (rename_i hK _ _ _ _ _ _ _ _ _ _; refine hK _ _ ?_; clear hK) | (rename_i hK _ _ _ _ _ _ _ _ _ _ _; refine hK _ _ ?_; clear hK) | (rename_i hK _ _ _ _ _ _ _ _ _ _ _ _; refine hK _ _ ?_; clear hK) | (rename_i hK _ _ _ _ _ _ _ _ _ _ _ _ _; refine hK _ _ ?_; clear hK) | (rename_i hK _ _ _ _ _ _ _ _ _ _ _ _ _ _; refine hK _ _ ?_; clear hK) | (rename_i hK _ _ _ _ _ _ _ _ _ _ _ _ _ _ _; refine hK _ _ ?_; clear hK) | (rename_i hK _ _ _ _ _ _ _ _ _ _ _ _ _ _ _ _; refine hK _ _ ?_; clear hK) | (rename_i hK _ _ _ _ _ _ _ _ _ _ _ _ _ _ _ _ _; refine hK _ _ ?_; clear hK) | (rename_i hK _ _ _ _ _ _ _ _ _ _ _ _ _ _ _ _ _ _; refine hK _ _ ?_; clear hK) | (rename_i hK _ _ _ _ _ _ _ _ _ _ _ _ _ _ _ _ _ _ _; refine hK _ _ ?_; clear hK) | (rename_i hK _ _ _ _ _ _ _ _ _ _ _ _ _ _ _ _ _ _ _ _; refine hK _ _ ?_; clear hK) | (rename_i hK _ _ _ _ _ _ _ _ _ _ _ _ _ _ _ _ _ _ _ _ _; refine hK _ _ ?_; clear hK) | (rename_i hK _ _ _ _ _ _ _ _ _ _ _ _ _ _ _ _ _ _ _ _ _ _; refine hK _ _ ?_; clear hK) | (rename_i hK _ _ _ _ _ _ _ _ _ _ _ _ _ _ _ _ _ _ _ _ _ _ _; refine hK _ _ ?_; clear hK) | (rename_i hK _ _ _ _ _ _ _ _ _ _ _ _ _ _ _ _ _ _ _ _ _ _ _ _; refine hK _ _ ?_; clear hK) | (rename_i hK _ _ _ _ _ _ _ _ _ _ _ _ _ _ _ _ _ _ _ _ _ _ _ _ _; refine hK _ _ ?_; clear hK) | (rename_i hK _ _ _ _ _ _ _ _ _ _ _ _ _ _ _ _ _ _ _ _ _ _ _ _ _ _; refine hK _ _ ?_; clear hK) | (rename_i hK _ _ _ _ _ _ _ _ _ _ _ _ _ _ _ _ _ _ _ _ _ _ _ _ _ _ _; refine hK _ _ ?_; clear hK) | (rename_i hK _ _ _ _ _ _ _ _ _ _ _ _ _ _ _ _ _ _ _ _ _ _ _ _ _ _ _ _; refine hK _ _ ?_; clear hK) | (rename_i hK _ _ _ _ _ _ _ _ _ _ _ _ _ _ _ _ _ _ _ _ _ _ _ _ _ _ _ _ _; refine hK _ _ ?_; clear hK) | (rename_i hK _ _ _ _ _ _ _ _ _ _ _ _ _ _ _ _ _ _ _ _ _ _ _ _ _ _ _ _ _ _; refine hK _ _ ?_; clear hK) | (rename_i hK _ _ _ _ _ _ _ _ _ _ _ _ _ _ _ _ _ _ _ _ _ _ _ _ _ _ _ _ _ _ _; refine hK _ _ ?_; clear hK) | (rename_i hK _ _ _ _ _ _ _ _ _ _ _ _ _ _ _ _ _ _ _ _ _ _ _ _ _ _ _ _ _ _ _ _; refine hK _ _ ?_; clear hK) | (rename_i hK _ _ _ _ _ _ _ _ _ _ _ _ _ _ _ _ _ _ _ _ _ _ _ _ _ _ _ _ _ _ _ _ _; refine hK _ _ ?_; clear hK) | (rename_i hK _ _ _ _ _ _ _ _ _ _ _ _ _ _ _ _ _ _ _ _ _ _ _ _ _ _ _ _ _ _ _ _ _ _; refine hK _ _ ?_; clear hK) | (rename_i hK _ _ _ _ _ _ _ _ _ _ _ _ _ _ _ _ _ _ _ _ _ _ _ _ _ _ _ _ _ _ _ _ _ _ _; refine hK _ _ ?_; clear hK) | (rename_i hK _ _ _ _ _ _ _ _ _ _ _ _ _ _ _ _ _ _ _ _ _ _ _ _ _ _ _ _ _ _ _ _ _ _ _ _; refine hK _ _ ?_; clear hK) | (rename_i hK _ _ _ _ _ _ _ _ _ _ _ _ _ _ _ _ _ _ _ _ _ _ _ _ _ _ _ _ _ _ _ _ _ _ _ _ _; refine hK _ _ ?_; clear hK) | (rename_i hK _ _ _ _ _ _ _ _ _ _ _ _ _ _ _ _ _ _ _ _ _ _ _ _ _ _ _ _ _ _ _ _ _ _ _ _ _ _; refine hK _ _ ?_; clear hK) | (rename_i hK _ _ _ _ _ _ _ _ _ _ _ _ _ _ _ _ _ _ _ _ _ _ _ _ _ _ _ _ _ _ _ _ _ _ _ _ _ _ _; refine hK _ _ ?_; clear hK)
          rename_i hF _
          go_wp2_with fail
          go_roundw
          case rel => exact ⟨k + 1, p', m', on', N', L', SW', by omega, rfl, by go_num, HN', by rw [HSQ.out]; exact h6.fr hF⟩
          case measure => simp [intOf]; omega
      · obtain rfl : k = ls.length := by omega
        have hn2 : SW.length ≤ 150 := by have := HN.out.2.2; omega
        have hn : Few (SW.map Subtype.val) := ⟨by simp; omega⟩
        clear hcs hzw HN
        go_wp2_with fail
        refine (dd_clash hO hn2 (Fr.refl _ _) a b).mono ?_
        rintro e w1 ⟨v1, cs1, rfl, C1, r1, f1, F1⟩
        have HC1 := Lib.hid C1
        go_wp2_with fail
        refine (dd_rclash hO hn F1 a b).mono ?_
        rintro e w2 ⟨v2, cs2, rfl, C2, r2, f2, F2⟩
        have HC2 := Lib.hid C2
        go_wp2_with fail
        refine (dd_same64 (HC1.out.unique HC2.out) (by have := HC1.out.1; simp at this; omega) r1 f2 r2).mono ?_
        rintro e w3 ⟨rfl, f3⟩
        have F3 := F2.trans f3
        clear r1 r2 f1 f2 f3 C1 C2 F1 F2
        go_wp2_with fail
        refine (dd_clash hO hn2 F3 a b).mono ?_
        rintro e w4 ⟨v4, cs4, rfl, C4, r4, f4, F4⟩
        have HC4 := Lib.hid C4
        go_wp2_with fail
        refine (dd_clash hO hn2 F4 b a).mono ?_
        rintro e w5 ⟨v5, cs5, rfl, C5, r5, f5, F5⟩
        have HC5 := Lib.hid C5
        go_wp2_with fail
        refine (dd_same64 (HC4.out.unique HC5.out.symm) (by have := HC4.out.1; simp at this; omega) r4 f5 r5).mono ?_
        rintro e w6 ⟨rfl, f6⟩
        have F6 := F5.trans f6
        go_wp2_with fail
        refine (alive13 _).mono ?_
        rintro e w7 ⟨rfl, hB⟩
        go_wp2_with fail
        go_ret
        exact ⟨rfl, bt (Fr.step hO.below F6 hO.below.size (fun _ h => h.elim)) hB⟩
end Go.Proofs.Ythmabnigdnbdkaa
