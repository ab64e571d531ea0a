/- Package bmap: may, Needs. -/
import Derived.Test.YtjjphcnoegaimaaGreatGS
import Derived.Test.YtjjphcnoegaimaaGreatGT
import Derived.Test.YtjjphcnoegaimaaGreatGO
namespace Go.Proofs.YtjjphcnoegaimaaGreat
open Go.RowKit Go.Shelf Go.Maps
set_option maxRecDepth 20000
set_option linter.unusedVariables false

set_option maxHeartbeats 400000 in
theorem has_any {a : Nat} {b v : Int} {w : World} (h : w.cell? ⟨a, 1, none⟩ = some (.int .i64 b)) (h0 : 0 ≤ v) (h1 : v < 65536) (c : Bool) (hc : decide (v ≤ b) = c) : Calls Tryz.prog 87 #[.int .u16 v, .pointer (some ⟨a, 0, none⟩)] w fun e w' => e = .returned (.bool c) ∧ w = w' := by
  have hw : IntKind.i64.wrap v = v := i64_sm (by omega) (by omega)
  go_enter Tryz.func87, Tryz.ntmps87
  go_wp2_with fail
  go_ret
  exact ⟨by rw [← hc]; rfl, rfl⟩
/-- What is asked of all. -/
structure MayB (i b j : Int) (x : Ino) (v : Int) : Prop where
  g : Mays i b j
  v : v ≤ b
  n : x.n ≤ b
  d : ∀ k, k < 4 → x.d k ≤ b
set_option maxHeartbeats 4000000 in
theorem bmay_yes {i b j v : Int} {x : Ino} (h : MayB i b j x v) (hx : x.Wf) (h0 : 0 ≤ v) (h1 : v < 65536) {tb : Nat} (w : World) : Calls Tryz.prog 56 #[.pointer (some ⟨tb, 0, none⟩), gv i b j, .agg (ic x), .int .u16 v, .bool true] w fun e w' => e = .returned (.int .i64 0) ∧ Below w.heap.size w w' := by
  unfold gv ic
  have hm := fun w => geo_may_yes h.g w
  have HM := Lib.hid hm
  have HH := Lib.hid h
  have HX := Lib.hid hx
  have hd : ∀ k, k < 4 → 0 ≤ x.d k ∧ x.d k < 65536 := fun k hk => by
    have : k = 0 ∨ k = 1 ∨ k = 2 ∨ k = 3 := by omega
    rcases this with rfl | rfl | rfl | rfl
    · exact hx.d0
    · exact hx.d1
    · exact hx.d2
    · exact hx.d3
  have HD := Lib.hid hd
  clear hm h hx hd
  go_enter Tryz.func56, Tryz.ntmps56
  go_wp2_with fail
  have hB1 : Below w.heap.size w ((w.alloc (.cells #[.int .i64 i, .int .i64 b, .int .i64 j] 56)).alloc (.cells #[.int .u8 x.k, .int .u16 x.l, .int .u32 x.s, .int .u16 x.d0, .int .u16 x.d1, .int .u16 x.d2, .int .u16 x.d3, .int .u16 x.n] 61)) := bal (bnew _ _) _
  have b6 := hp_old (w.alloc (.cells #[.int .i64 i, .int .i64 b, .int .i64 j] 56)) (.cells #[.int .u8 x.k, .int .u16 x.l, .int .u32 x.s, .int .u16 x.d0, .int .u16 x.d1, .int .u16 x.d2, .int .u16 x.d3, .int .u16 x.n] 61) (k := w.heap.size) (by simp)
  rw [hp_new w _ rfl] at b6
  have b7 := hp_new (w.alloc (.cells #[.int .i64 i, .int .i64 b, .int .i64 j] 56)) (.cells #[.int .u8 x.k, .int .u16 x.l, .int .u32 x.s, .int .u16 x.d0, .int .u16 x.d1, .int .u16 x.d2, .int .u16 x.d3, .int .u16 x.n] 61) (k := w.heap.size + 1) (by simp)
  obtain ⟨W1, hW1⟩ : ∃ W1, (w.alloc (.cells #[.int .i64 i, .int .i64 b, .int .i64 j] 56)).alloc (.cells #[.int .u8 x.k, .int .u16 x.l, .int .u32 x.s, .int .u16 x.d0, .int .u16 x.d1, .int .u16 x.d2, .int .u16 x.d3, .int .u16 x.n] 61) = W1 := ⟨_, rfl⟩
  rw [hW1] at hB1 b6 b7
  simp only [hW1]
  clear hW1
  refine (HM.out _).mono ?_
  rintro e w2 ⟨rfl, hB2⟩
  have HB2 := Lib.hid (bt hB1 hB2)
  have c6 := bblk hB2 b6
  have c7 := bblk hB2 b7
  clear hB1 hB2 b6 b7
  have p1 := cl_of c6 1
  have q3 := cl_of c7 3
  have q4 := cl_of c7 4
  have q5 := cl_of c7 5
  have q6 := cl_of c7 6
  have q7 := cl_of c7 7
  go_wp2_with fail
  refine (has_any p1 h0 h1 true (decide_eq_true HH.out.v)).mono ?_
  rintro e w3 ⟨rfl, rfl⟩
  go_wp2_with fail
  refine (has_any p1 HX.out.n.1 HX.out.n.2 true (decide_eq_true HH.out.n)).mono ?_
  rintro e w3 ⟨rfl, rfl⟩
  go_wp2_with fail
  go_loopw [12, 14, 36] (fun v12 _ v36 wr => ∃ k : Nat, k ≤ 4 ∧ v36 = .int .i64 k ∧ v12 = .bool true ∧ wr = w2) (fun _ _ v36 _ => 4 - (intOf v36).toNat)
  case atStart => exact ⟨0, Nat.zero_le _, rfl, rfl, rfl⟩
  case round =>
    obtain ⟨k, hk, rfl, rfl, rfl⟩ := hrel
    by_cases hlt : k < 4
    · have hd := dir_at x hlt wr
      have hdk := HD.out k hlt
      have hh := has_any p1 hdk.1 hdk.2 true (decide_eq_true (HH.out.d k hlt))
      have HHH := Lib.hid hh
      clear hh hdk
      go_wp2_with fail
      refine HHH.out.mono ?_
      rintro e w3 ⟨rfl, rfl⟩
      go_wp2_with fail
      go_roundw
      case rel => exact ⟨k + 1, by omega, by go_num, rfl, trivial⟩
      case measure => simp [intOf]; omega
    · obtain rfl : k = 4 := by omega
      go_wp2_with fail
      go_ret
      exact ⟨rfl, HB2.out⟩
set_option maxHeartbeats 400000 in
theorem bmay_nil (g x v c : Value) (w : World) (hg : ∃ i b j, g = gv i b j) (hx : ∃ x', x = .agg (ic x')) : Calls Tryz.prog 56 #[.pointer none, g, x, v, c] w fun e w' => e = .returned (.int .i64 1) ∧ Below w.heap.size w w' := by
  obtain ⟨i, b, j, rfl⟩ := hg
  obtain ⟨x', rfl⟩ := hx
  unfold gv ic
  go_enter Tryz.func56, Tryz.ntmps56
  go_wp2_with fail
  go_ret
  exact ⟨rfl, bal (bnew _ _) _⟩
/-- Does a page need an indirect block? -/
def needs (x : Ino) (page : Int) : Bool := decide (4 ≤ page ∧ page < 36 ∧ x.n = 0)
set_option maxHeartbeats 1000000 in
theorem needs_any (x : Ino) (page : Int) (w : World) : Calls Tryz.prog 36 #[.agg (ic x), .int .i64 page] w fun e w' => e = .returned (.bool (needs x page)) ∧ Below w.heap.size w w' := by
  unfold ic
  by_cases h1 : 4 ≤ page
  · by_cases h2 : page < 36
    · by_cases h3 : x.n = 0
      · have e3 : (x.n == 0) = true := by simpa using h3
        have hn : needs x page = true := decide_eq_true ⟨h1, h2, h3⟩
        have HN := Lib.hid hn
        clear hn h3
        go_enter Tryz.func36, Tryz.ntmps36
        go_wp2_with fail
        go_ret
        exact ⟨by rw [HN.out]; rfl, bnew _ _⟩
      · have e3 : (x.n == 0) = false := by simpa using h3
        have hn : needs x page = false := decide_eq_false (fun h => h3 h.2.2)
        have HN := Lib.hid hn
        clear hn h3
        go_enter Tryz.func36, Tryz.ntmps36
        go_wp2_with fail
        go_ret
        exact ⟨by rw [HN.out]; rfl, bnew _ _⟩
    · have hn : needs x page = false := decide_eq_false (fun h => h2 h.2.1)
      have HN := Lib.hid hn
      clear hn
      go_enter Tryz.func36, Tryz.ntmps36
      go_wp2_with fail
      go_ret
      exact ⟨by rw [HN.out]; rfl, bnew _ _⟩
  · have hn : needs x page = false := decide_eq_false (fun h => h1 h.1)
    have HN := Lib.hid hn
    clear hn
    go_enter Tryz.func36, Tryz.ntmps36
    go_wp2_with fail
    go_ret
    exact ⟨by rw [HN.out]; rfl, bnew _ _⟩
end Go.Proofs.YtjjphcnoegaimaaGreat
