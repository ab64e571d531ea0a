/- The law GeoBack: what was put is read, and nothing else is. -/
import Derived.Test.YtcdmipgopffaaaaGeoAlive
import Derived.Test.YtcdmipgopffaaaaBytes
import Derived.Lib.SmallJoins
import Derived.OpenShut
namespace Go.Proofs.Ytcdmipgopffaaaa
open Go.RowKit Go.ChangeShapes Go.WideShapes Go.Joins
set_option maxRecDepth 100000

/-- A geometry that comes in. -/
structure GeoV (v : Value) (g : Int × Int × Int) : Prop where
  val : v = .agg #[.int .i64 g.1, .int .i64 g.2.1, .int .i64 g.2.2]
  w0 : (Lit.int .i64 g.1).wf = true
  w1 : (Lit.int .i64 g.2.1).wf = true
  w2 : (Lit.int .i64 g.2.2).wf = true
theorem Try.cellsGeo : Try.prog.cellsOf 23 = 3 := by kernel_rfl
theorem open_geo {H : Type} {enc : TypeId × Value → H} {w : World} {base : Nat} {held : Bool} {spare : Nat → Bool} {v : Value} {d : DataW H} {ps : List MemPlace}
    {r : Reach} {b0 : Nat} (hval : Value.okWide Try.prog w r b0 23 v) (hd : DataW.Trod enc Try.prog w base spare held 23 v d ps) : ∃ g, GeoV v g := by
  obtain ⟨c0, c1, c2, y0, y1, y2, m, rfl, -, -, h0, h1, h2⟩ := open_agg3 Try.underlying23 (by kernel_rfl) Try.cellsGeo hval hd
  obtain ⟨a, e0, -, wa⟩ := DataW.trod_int Try.underlying3 h0
  obtain ⟨b, e1, -, wb⟩ := DataW.trod_int Try.underlying3 h1
  obtain ⟨c, e2, -, wc⟩ := DataW.trod_int Try.underlying3 h2
  simp at e0 e1 e2
  subst e0 e1 e2
  exact ⟨(a, b, c), rfl, wa, wb, wc⟩

/-- Are two geometries one? -/
def geq (i b j i' b' j' : Int) : Bool := decide (i = i' ∧ b = b' ∧ j = j')
theorem geq_self (i b j : Int) : geq i b j i b j = true := by simp [geq]
theorem geq_yes {i b j i' b' j' : Int} (h : i = i' ∧ b = b' ∧ j = j') : geq i b j i' b' j' = true := by simpa [geq] using h
theorem geq_no {i b j i' b' j' : Int} (h : ¬ (i = i' ∧ b = b' ∧ j = j')) : geq i b j i' b' j' = false := decide_eq_false h
theorem eq_geo (i b j i' b' j' : Int) (w : World) : (Op.equalIn 10000 23 (.agg #[.int .i64 i, .int .i64 b, .int .i64 j]) (.agg #[.int .i64 i', .int .i64 b', .int .i64 j'])).run Try.prog w = .ok (geq i b j i' b' j') w := by
  have u3 := Try.underlying3
  have a3 := Try.isAgg3
  rw [show (10000 : Nat) = 9999 + 1 by rfl, run_equalIn_struct (P := Try.prog) w 9999 23 _ _ (by kernel_rfl) (by kernel_rfl)]
  simp only [Program.fieldsOf, Try.underlying23]
  go_simp
  unfold geq
  by_cases h1 : i = i' <;> by_cases h2 : b = b' <;> by_cases h3 : j = j' <;> simp [h1, h2, h3]
attribute [local go_sem ↓] eq_geo geq_self
set_option maxHeartbeats 4000000 in
theorem geoback_walk (v0 : Value) (g : Int × Int × Int) (v1 : Value) (h : Int × Int × Int) (at_ by_ : Int) (hg : GeoV v0 g) (hh : GeoV v1 h) (wa : (Lit.int .u8 at_).wf = true) (wb : (Lit.int .u8 by_).wf = true) (w : World) :
    Calls Try.prog 3 #[v0, v1, .int .u8 at_, .int .u8 by_] w fun e w' => e = .returned (.bool true) ∧ Below w.heap.size w w' := by
  obtain ⟨i, b, j⟩ := g
  obtain ⟨i', b', j'⟩ := h
  obtain rfl := hg.val
  obtain rfl := hh.val
  clear hg hh
  obtain ⟨a0, a1⟩ := wfu8 wa
  obtain ⟨b0, b1⟩ := wfu8 wb
  clear wa wb
  obtain ⟨a, rfl⟩ := Int.eq_ofNat_of_zero_le a0
  obtain ⟨y, rfl⟩ : ∃ y : UInt8, by_ = (y.toNat : Int) := ⟨UInt8.ofNat by_.toNat, by simp; omega⟩
  have d0 := blk_old (hp_new w (.cells #[.int .i64 i, .int .i64 b, .int .i64 j] 23) rfl) (.cells #[.int .i64 i', .int .i64 b', .int .i64 j'] 23)
  have d1 : ((w.alloc (.cells #[.int .i64 i, .int .i64 b, .int .i64 j] 23)).alloc (.cells #[.int .i64 i', .int .i64 b', .int .i64 j'] 23)).heap[w.heap.size + 1]? = some (.cells #[.int .i64 i', .int .i64 b', .int .i64 j'] 23 (0, 0)) := hp_new _ _ (by simp)
  by_cases hm : Mays i b j
  rotate_left
  · by_cases hn : Mays i' b' j'
    · go_enter Try.func3, Try.ntmps3
      go_wp2_with fail
      refine (super_no hm _).mono ?_
      rintro e w1 ⟨rfl, hB⟩
      have hg1 := bblk hB d0
      have hh1 := bblk hB d1
      have B1 := bt (bal (bnew w _) _) hB
      clear hB d0 d1
      have h0 := cl_of hh1 0
      have h1 := cl_of hh1 1
      have h2 := cl_of hh1 2
      go_wp2_with fail
      refine (super_yes hn _).mono ?_
      rintro e w2 ⟨rfl, hB2⟩
      have hg2 := bblk hB2 hg1
      have hh2 := bblk hB2 hh1
      have B2 := bt B1 hB2
      clear hB2 hg1 hh1 h0 h1 h2 B1
      have g0 := cl_of hg2 0
      have g1 := cl_of hg2 1
      have g2 := cl_of hg2 2
      go_wp2_with fail
      refine (geo_may_no hm _).mono ?_
      rintro e w3 ⟨rfl, hB3⟩
      have hh3 := bblk hB3 hh2
      have B3 := bt B2 hB3
      clear hB3 hg2 hh2 g0 g1 g2 B2
      have h0 := cl_of hh3 0
      have h1 := cl_of hh3 1
      have h2 := cl_of hh3 2
      go_wp2_with fail
      refine (geo_may_yes hn _).mono ?_
      rintro e w4 ⟨rfl, hB4⟩
      go_wp2_with fail
      refine (alive05 _).mono ?_
      rintro e w5 ⟨rfl, hB5⟩
      go_wp2_with fail
      go_ret
      exact ⟨rfl, bt (bt B3 hB4) hB5⟩
    · go_enter Try.func3, Try.ntmps3
      go_wp2_with fail
      refine (super_no hm _).mono ?_
      rintro e w1 ⟨rfl, hB⟩
      have hg1 := bblk hB d0
      have hh1 := bblk hB d1
      have B1 := bt (bal (bnew w _) _) hB
      clear hB d0 d1
      have h0 := cl_of hh1 0
      have h1 := cl_of hh1 1
      have h2 := cl_of hh1 2
      go_wp2_with fail
      refine (super_no hn _).mono ?_
      rintro e w2 ⟨rfl, hB2⟩
      have hg2 := bblk hB2 hg1
      have hh2 := bblk hB2 hh1
      have B2 := bt B1 hB2
      clear hB2 hg1 hh1 h0 h1 h2 B1
      have g0 := cl_of hg2 0
      have g1 := cl_of hg2 1
      have g2 := cl_of hg2 2
      go_wp2_with fail
      refine (geo_may_no hm _).mono ?_
      rintro e w3 ⟨rfl, hB3⟩
      have hh3 := bblk hB3 hh2
      have B3 := bt B2 hB3
      clear hB3 hg2 hh2 g0 g1 g2 B2
      have h0 := cl_of hh3 0
      have h1 := cl_of hh3 1
      have h2 := cl_of hh3 2
      go_wp2_with fail
      refine (geo_may_no hn _).mono ?_
      rintro e w4 ⟨rfl, hB4⟩
      go_wp2_with fail
      refine (alive05 _).mono ?_
      rintro e w5 ⟨rfl, hB5⟩
      go_wp2_with fail
      go_ret
      exact ⟨rfl, bt (bt B3 hB4) hB5⟩
  · by_cases hn : Mays i' b' j'
    · go_enter Try.func3, Try.ntmps3
      go_wp2_with fail
      refine (super_yes hm _).mono ?_
      rintro e w1 ⟨rfl, hB⟩
      have hg1 := bblk hB d0
      have hh1 := bblk hB d1
      have B1 := bt (bal (bnew w _) _) hB
      clear hB d0 d1
      have g0 := cl_of hg1 0
      have g1 := cl_of hg1 1
      have g2 := cl_of hg1 2
      have h0 := cl_of hh1 0
      have h1 := cl_of hh1 1
      have h2 := cl_of hh1 2
      go_wp2_with fail
      refine (super_yes hn _).mono ?_
      rintro e w2 ⟨rfl, hB2⟩
      have hg2 := bblk hB2 hg1
      have hh2 := bblk hB2 hh1
      have B2 := bt B1 hB2
      clear hB2 hg1 hh1 g0 g1 g2 h0 h1 h2 B1
      have g0 := cl_of hg2 0
      have g1 := cl_of hg2 1
      have g2 := cl_of hg2 2
      have h0 := cl_of hh2 0
      have h1 := cl_of hh2 1
      have h2 := cl_of hh2 2
      go_wp2_with fail
      refine (read_yes hm _).mono ?_
      rintro e w3 ⟨rfl, hB3⟩
      have hg3 := bblk hB3 hg2
      have hh3 := bblk hB3 hh2
      have B3 := bt B2 hB3
      clear hB3 hg2 hh2 g0 g1 g2 h0 h1 h2 B2
      have g0 := cl_of hg3 0
      have g1 := cl_of hg3 1
      have g2 := cl_of hg3 2
      have h0 := cl_of hh3 0
      have h1 := cl_of hh3 1
      have h2 := cl_of hh3 2
      have l3 := blk_lt hh3
      have l4 := blk_lt hg3
      have HQ : ((bs (sup i b j)).toList == (bs (sup i' b' j')).toList) = geq i b j i' b' j' := by
        by_cases hgh : i = i' ∧ b = b' ∧ j = j'
        · rw [geq_yes hgh]
          obtain ⟨rfl, rfl, rfl⟩ := hgh
          exact bs_eq' rfl
        · rw [geq_no hgh]
          exact bs_ne' (fun e => hgh (sup_inj hm hn e))
      have hsl := sup_length i b j
      have hsz := bs_size (sup i b j)
      rw [hsl] at hsz
      obtain ⟨cap, W0, hrun, hbb, hbel, hlt0⟩ := bytes_of' (P := Try.prog) (w3.alloc (.cells #[.int .i64 i, .int .i64 b, .int .i64 j] 23)) 9 31 5 (sup i b j) Try.underlying9 Try.underlying31 Try.underlying5
      rw [hsl] at hrun
      have hg4 := bblk hbel (blk_old hg3 (.cells #[.int .i64 i, .int .i64 b, .int .i64 j] 23))
      have B4 := bt (bal B3 (.cells #[.int .i64 i, .int .i64 b, .int .i64 j] 23)) hbel
      obtain ⟨B, hBe⟩ : ∃ B, B = w3.heap.size + 1 := ⟨_, rfl⟩
      have hBe' : (w3.alloc (.cells #[.int .i64 i, .int .i64 b, .int .i64 j] 23)).heap.size = B := by rw [hBe]; simp
      rw [hBe'] at hrun hbb hlt0
      have hB0 : w.heap.size + 1 < B := by omega
      have HBE := Lib.hid hBe
      clear hBe hBe' hbel
      have hlt : a % 64 < (sup i b j).length := by rw [hsl]; exact Nat.mod_lt _ (by decide)
      obtain ⟨hck, hfk⟩ := hbb (a % 64) hlt
      have hK : (a : Int) % 64 = ((a % 64 : Nat) : Int) := by omega
      have hK1 : a % 64 < 64 := Nat.mod_lt _ (by decide)
      have hset := hbb.set hlt ((sup i b j)[a % 64] ^^^ y)
      generalize hL : (sup i b j).set (a % 64) ((sup i b j)[a % 64] ^^^ y) = L at hset
      have hxor : bits .xor .u8 ((sup i b j)[a % 64].toNat : Int) (y.toNat : Int) = (((sup i b j)[a % 64] ^^^ y).toNat : Int) := by
        rw [u8_xor_nat _ _ (UInt8.toNat_lt _) (UInt8.toNat_lt _), UInt8.toNat_xor]
      generalize hx : (sup i b j)[a % 64] = x at *
      have HX := Lib.hid hx
      clear hx
      generalize a % 64 = K at *
      have HL := Lib.hid hL
      have HSL := Lib.hid hsl
      clear hL hsl hbb
      rw [UInt8.toNat_xor] at hset
      have hWB : Below w.heap.size w (W0.setCell ⟨B, K, none⟩ (.int .u8 ((x.toNat ^^^ y.toNat : Nat) : Int))) := B4.setCell (by show w.heap.size ≤ B; omega) _
      have hWg := blk_set hg4 (p := ⟨B, K, none⟩) (by show w.heap.size ≠ B; omega) (.int .u8 ((x.toNat ^^^ y.toNat : Nat) : Int))
      have hWz : B < (W0.setCell ⟨B, K, none⟩ (.int .u8 ((x.toNat ^^^ y.toNat : Nat) : Int))).heap.size := by simpa [World.setCell] using hlt0
      generalize hW1 : W0.setCell ⟨B, K, none⟩ (.int .u8 ((x.toNat ^^^ y.toNat : Nat) : Int)) = W1 at *
      have hLl : L.length = 64 := by rw [← HL.out, List.length_set, HSL.out]
      have hback := hset.back (P := Try.prog) 64 cap hLl Try.underlying31 Try.underlying5 Try.underlying9
      by_cases hy : y = 0
      · have hy0 : ((y.toNat : Int) == 0) = true := by rw [hy]; rfl
        have hLs : L = sup i b j := by
          rw [← HL.out, hy, ← HX.out, UInt8.xor_zero]
          exact List.set_getElem_self _
        rw [hLs] at hback
        clear hset HL HX hLl hLs hy
        go_wp2_with fail
        refine (read_yes hm _).mono ?_
        rintro e w4 ⟨rfl, hB4⟩
        have hg4 := bblk hB4 hWg
        have g0 := cl_of hg4 0
        have g1 := cl_of hg4 1
        have g2 := cl_of hg4 2
        have l4 := blk_lt hg4
        have B4 := bal (bt hWB hB4) (.cells #[.int .i64 i, .int .i64 b, .int .i64 j] 23)
        clear hback hWB hWg hB4
        go_wp2_with fail
        refine (alive05 _).mono ?_
        rintro e w5 ⟨rfl, hB5⟩
        go_wp2_with fail
        go_ret
        exact ⟨rfl, bt B4 hB5⟩
      · have hy0 : ((y.toNat : Int) == 0) = false := by
          rw [beq_eq_false_iff_ne]
          intro e
          exact hy (UInt8.toNat_inj.1 (by simpa using e))
        have hne : L ≠ sup i b j := by
          intro e
          have hlt' : K < ((sup i b j).set K (x ^^^ y)).length := by rw [List.length_set]; exact hlt
          have h1 : ((sup i b j).set K (x ^^^ y))[K]'hlt' = x ^^^ y := List.getElem_set_self _
          have h2 : (sup i b j).set K (x ^^^ y) = sup i b j := HL.out.trans e
          have h3 : ((sup i b j).set K (x ^^^ y))[K]'hlt' = x := by simp only [h2]; exact HX.out
          rw [h3] at h1
          apply hy
          have h5 : x ^^^ (x ^^^ y) = x ^^^ x := by rw [← h1]
          rw [← UInt8.xor_assoc, UInt8.xor_self, UInt8.zero_xor] at h5
          exact h5
        clear HL HX hy
        by_cases hex : ∃ i2 b2 j2, Mays i2 b2 j2 ∧ sup i2 b2 j2 = L
        · obtain ⟨i2, b2, j2, h2, rfl⟩ := hex
          have hge : geq i2 b2 j2 i b j = false := geq_no (fun e => hne (by rw [e.1, e.2.1, e.2.2]))
          clear hne
          go_wp2_with fail
          refine (read_yes h2 _).mono ?_
          rintro e w4 ⟨rfl, hB4⟩
          have hg4 := bblk hB4 hWg
          have B4 := bal (bt hWB hB4) (.cells #[.int .i64 i2, .int .i64 b2, .int .i64 j2] 23)
          have hs4 := (hset.below hB4 hWz).below (bnew w4 (.cells #[.int .i64 i2, .int .i64 b2, .int .i64 j2] 23)) (Nat.lt_of_lt_of_le hWz hB4.size)
          have l4 : B < (w4.alloc (.cells #[.int .i64 i2, .int .i64 b2, .int .i64 j2] 23)).heap.size := by have := hB4.size; simp; omega
          have hy4 : (w4.alloc (.cells #[.int .i64 i2, .int .i64 b2, .int .i64 j2] 23)).heap[w4.heap.size]? = some (.cells #[.int .i64 i2, .int .i64 b2, .int .i64 j2] 23 (0, 0)) := hp_new _ _ rfl
          have hg5 := blk_old hg4 (.cells #[.int .i64 i2, .int .i64 b2, .int .i64 j2] 23)
          clear hback hWB hWg hB4 hset hg4
          go_wp2_with fail
          refine (super_yes h2 _).mono ?_
          rintro e w5 ⟨rfl, hB5⟩
          have hback := (hs4.below hB5 l4).back (P := Try.prog) 64 cap hLl Try.underlying31 Try.underlying5 Try.underlying9
          have hg6 := bblk hB5 hg5
          have hy6 := bblk hB5 hy4
          have B5 := bt B4 hB5
          have g0 := cl_of hg6 0
          have g1 := cl_of hg6 1
          have g2 := cl_of hg6 2
          have k0 := cl_of hy6 0
          have k1 := cl_of hy6 1
          have k2 := cl_of hy6 2
          clear hB5 hs4 hy4 hg5
          go_wp2_with fail
          refine (alive05 _).mono ?_
          rintro e w6 ⟨rfl, hB6⟩
          go_wp2_with fail
          go_ret
          exact ⟨rfl, bt B5 hB6⟩
        · go_wp2_with fail
          refine (read_no (by omega) (fun i2 b2 j2 h2 e => hex ⟨i2, b2, j2, h2, e⟩) _).mono ?_
          rintro e w4 ⟨rfl, hB4⟩
          have B4 := bal (bt hWB hB4) (.cells #[.int .i64 0, .int .i64 0, .int .i64 0] 23)
          clear hback hWB hWg hB4 hset hex hne
          go_wp2_with fail
          refine (alive05 _).mono ?_
          rintro e w5 ⟨rfl, hB5⟩
          go_wp2_with fail
          go_ret
          exact ⟨rfl, bt B4 hB5⟩
    · go_enter Try.func3, Try.ntmps3
      go_wp2_with fail
      refine (super_yes hm _).mono ?_
      rintro e w1 ⟨rfl, hB⟩
      have hg1 := bblk hB d0
      have hh1 := bblk hB d1
      have B1 := bt (bal (bnew w _) _) hB
      clear hB d0 d1
      have h0 := cl_of hh1 0
      have h1 := cl_of hh1 1
      have h2 := cl_of hh1 2
      go_wp2_with fail
      refine (super_no hn _).mono ?_
      rintro e w2 ⟨rfl, hB2⟩
      have hg2 := bblk hB2 hg1
      have hh2 := bblk hB2 hh1
      have B2 := bt B1 hB2
      clear hB2 hg1 hh1 h0 h1 h2 B1
      have g0 := cl_of hg2 0
      have g1 := cl_of hg2 1
      have g2 := cl_of hg2 2
      go_wp2_with fail
      refine (geo_may_yes hm _).mono ?_
      rintro e w3 ⟨rfl, hB3⟩
      have hh3 := bblk hB3 hh2
      have B3 := bt B2 hB3
      clear hB3 hg2 hh2 g0 g1 g2 B2
      have h0 := cl_of hh3 0
      have h1 := cl_of hh3 1
      have h2 := cl_of hh3 2
      go_wp2_with fail
      refine (geo_may_no hn _).mono ?_
      rintro e w4 ⟨rfl, hB4⟩
      go_wp2_with fail
      refine (alive05 _).mono ?_
      rintro e w5 ⟨rfl, hB5⟩
      go_wp2_with fail
      go_ret
      exact ⟨rfl, bt (bt B3 hB4) hB5⟩
end Go.Proofs.Ytcdmipgopffaaaa
