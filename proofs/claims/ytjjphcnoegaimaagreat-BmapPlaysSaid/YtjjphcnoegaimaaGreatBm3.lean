/- Package bmap: Get. -/
import Derived.Test.YtjjphcnoegaimaaGreatBm2
namespace Go.Proofs.YtjjphcnoegaimaaGreat
open Go.RowKit Go.Shelf Go.Maps
set_option maxRecDepth 20000
set_option linter.unusedVariables false

/-- The block of a page. -/
def pg (x : Ino) (M : Wl) (bs : Nat) (page : Nat) : Int := if page < 4 then x.d page else (toldL x M bs).getD (page - 4) 0
section
variable {w0 w W W' : World} {X : Nat → Prop} {p jb N tb m bsn : Nat} {M : Wl} {i b j : Int} {x : Ino}
set_option maxHeartbeats 4000000 in
theorem bget_any (h : TJ w0 X p jb N 0 1 40 0 0 (newS N) tb m M false W) (hg : GeoN i b j N) (hm : MayB i b j x 0) (hx : x.Wf) (hs : Sz M) (hb : x.n ≠ 0 → (bsn : Int) = fr i b j 5 + x.n - 1) (page : Nat) (hp : page < 36) :
    Calls Tryz.prog 32 #[.pointer (some ⟨tb, 0, none⟩), gv i b j, .agg (ic x), .int .i64 page] W fun e W' => e = .returned (.tuple #[.int .u16 (pg x M bsn page), .int .i64 0]) ∧ Below W.heap.size W W' := by
  have hmy := fun W => bmay_yes hm hx (Int.le_refl 0) (by decide) (tb := tb) W
  have htd := fun (W2 : World) (hB : Below W.heap.size W W2) => btold_any (h.of hB) hg hx hm.n hs hb
  have hlen := toldL_length x hs bsn
  unfold gv ic at hmy htd ⊢
  have hB1 : Below W.heap.size W ((W.alloc (.cells #[.int .i64 i, .int .i64 b, .int .i64 j] 56)).alloc (.cells #[.int .u8 x.k, .int .u16 x.l, .int .u32 x.s, .int .u16 x.d0, .int .u16 x.d1, .int .u16 x.d2, .int .u16 x.d3, .int .u16 x.n] 61)) := bal (bnew _ _) _
  have b6 := hp_old (W.alloc (.cells #[.int .i64 i, .int .i64 b, .int .i64 j] 56)) (.cells #[.int .u8 x.k, .int .u16 x.l, .int .u32 x.s, .int .u16 x.d0, .int .u16 x.d1, .int .u16 x.d2, .int .u16 x.d3, .int .u16 x.n] 61) (k := W.heap.size) (by simp)
  rw [hp_new W _ rfl] at b6
  have b7 := hp_new (W.alloc (.cells #[.int .i64 i, .int .i64 b, .int .i64 j] 56)) (.cells #[.int .u8 x.k, .int .u16 x.l, .int .u32 x.s, .int .u16 x.d0, .int .u16 x.d1, .int .u16 x.d2, .int .u16 x.d3, .int .u16 x.n] 61) (k := W.heap.size + 1) (by simp)
  have HMY := Lib.hid hmy
  have HTD := Lib.hid htd
  clear hmy htd h hg hm hx hs hb
  have e1 : decide ((page : Int) ≥ 0) = true := decide_eq_true (by omega)
  have e2 : decide ((page : Int) < 36) = true := decide_eq_true (by omega)
  go_enter Tryz.func32, Tryz.ntmps32
  go_wp2_with fail
  obtain ⟨W1, hW1⟩ : ∃ W1, (W.alloc (.cells #[.int .i64 i, .int .i64 b, .int .i64 j] 56)).alloc (.cells #[.int .u8 x.k, .int .u16 x.l, .int .u32 x.s, .int .u16 x.d0, .int .u16 x.d1, .int .u16 x.d2, .int .u16 x.d3, .int .u16 x.n] 61) = W1 := ⟨_, rfl⟩
  rw [hW1] at hB1 b6 b7
  simp only [hW1]
  clear hW1
  refine (HMY.out _).mono ?_
  rintro e w2 ⟨rfl, hB2⟩
  have HB2 := Lib.hid (bt hB1 hB2)
  have c6 := bblk hB2 b6
  have c7 := bblk hB2 b7
  clear hB1 hB2 b6 b7
  have g0 := cl_of c6 0
  have g1 := cl_of c6 1
  have g2 := cl_of c6 2
  have q0 := cl_of c7 0
  have q1 := cl_of c7 1
  have q2 := cl_of c7 2
  have q3 := cl_of c7 3
  have q4 := cl_of c7 4
  have q5 := cl_of c7 5
  have q6 := cl_of c7 6
  have q7 := cl_of c7 7
  by_cases h4 : page < 4
  · have e3 : decide ((page : Int) < 4) = true := decide_eq_true (by omega)
    have hpg : pg x M bsn page = x.d page := if_pos h4
    have HP := Lib.hid hpg
    have hcell : w2.cell? ⟨W.heap.size + 1, 3 + page, none⟩ = some (.int .u16 (x.d page)) := by rw [cl_of c7]; exact x.d_cell h4
    clear hpg
    go_wp2_with fail
    go_ret2
    exact ⟨by rw [HP.out]; rfl, HB2.out⟩
  · have e3 : decide ((page : Int) < 4) = false := decide_eq_false (by omega)
    have hpg : pg x M bsn page = (toldL x M bsn).getD (page - 4) 0 := if_neg h4
    have hsb : IntKind.i64.wrap ((page : Int) - 4) = ((page - 4 : Nat) : Int) := by rw [i64_sm (by omega) (by omega)]; omega
    obtain ⟨q, hq⟩ : ∃ q, page - 4 = q := ⟨_, rfl⟩
    rw [hq] at hsb hpg
    have hq32 : q < 32 := by omega
    have HP := Lib.hid hpg
    clear hpg hq
    go_wp2_with fail
    refine (HTD.out _ HB2.out).mono ?_
    rintro e w3 ⟨v, rfl, hrow, hB3⟩
    obtain ⟨g, cap, rfl⟩ : ∃ g cap, v = .slice (some ⟨g, 0, none⟩) 32 cap := by
      rcases hrow.2 with ⟨rfl, h0⟩ | ⟨g, c, cur, rfl, _⟩
      · omega
      · exact ⟨_, _, rfl⟩
    have hc : w3.cell? ⟨g, q, none⟩ = some (.int .u16 ((toldL x M bsn).getD q 0)) := ownsRow_cell (ownsRow_base hrow) rfl (by
      have : q < (toldL x M bsn).length := by rw [hlen]; exact hq32
      simp [u16s, List.getD_eq_getElem?_getD, this])
    have HB3 := Lib.hid (bt HB2.out hB3)
    generalize (toldL x M bsn).getD q 0 = z at *
    clear hrow hB3 hlen
    go_wp2_with fail
    go_ret2
    exact ⟨by rw [HP.out]; rfl, HB3.out⟩
end
end Go.Proofs.YtjjphcnoegaimaaGreat
