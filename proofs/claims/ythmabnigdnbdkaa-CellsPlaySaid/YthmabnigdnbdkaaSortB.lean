/- Sorting rows of uint64: the walk through breakPatternsOrdered. -/
import Derived.Test.YthmabnigdnbdkaaSortV
import Derived.Laws.BitsAllLaws
import Derived.Laws.Closers25b
namespace Go.Proofs.Ythmabnigdnbdkaa
open Go.RowKit Go.Sort
set_option maxRecDepth 20000
set_option linter.unusedVariables false
set_option linter.unusedSimpArgs false

/-- How many bits each byte has. -/
def bitsTab : ByteArray := ⟨((List.range 256).map (fun k => UInt8.ofNat (if k = 0 then 0 else Nat.log2 k + 1))).toArray⟩
theorem bitsTab_ok : ∀ k : Fin 256, 0 < k.1 → k.1 < 2 ^ (bitsTab.data.getD k.1 0).toNat ∧ 2 ^ (bitsTab.data.getD k.1 0).toNat ≤ 2 * k.1 := by decide +kernel
theorem bitsTab_size : bitsTab.size = 256 := by decide +kernel
theorem tab_ok {T : ByteArray} (hT : T = bitsTab) (k : Nat) (hk : k < T.size) (h0 : 0 < k) : k < 2 ^ (T[k]'hk).toNat ∧ 2 ^ (T[k]'hk).toNat ≤ 2 * k := by
  subst hT
  have h1 : k < 256 := by rw [bitsTab_size] at hk; exact hk
  have h2 := bitsTab_ok ⟨k, h1⟩ h0
  have e : bitsTab.data.getD k 0 = bitsTab[k]'hk := by
    have hk2 : k < bitsTab.data.size := hk
    rw [Array.getD_eq_getD_getElem?, Array.getElem?_eq_getElem hk2]
    rfl
  rw [e] at h2
  exact h2
theorem wrap_byte (b : UInt8) : wrap64 (wrap64 (b.toNat : Int)) = (b.toNat : Int) := by
  have := b.toNat_lt
  simp only [wrap64]
  omega
set_option maxHeartbeats 1000000 in
theorem len64_pow (x : Int) (h0 : 0 < x) (h1 : x < 256) (w : World) : Calls Try.prog 87 #[.int .u64 x] w fun e w' => (∃ n : Nat, e = .returned (.int .i64 n) ∧ x.toNat < 2 ^ n ∧ 2 ^ n ≤ 2 * x.toNat) ∧ w = w' := by
  go_enter Try.func87, Try.ntmps87
  go_wp2_with fail
  go_ret
  refine ⟨⟨_, congrArg (fun z => Ending.returned (Value.int .i64 z)) (wrap_byte _), ?_⟩, rfl⟩
  exact tab_ok (by kernel_rfl) _ _ (by omega)
theorem len_pow (x : Int) (h0 : 0 < x) (h1 : x < 256) (w : World) : Calls Try.prog 76 #[.int .u64 x] w fun e w' => (∃ n : Nat, e = .returned (.int .i64 n) ∧ x.toNat < 2 ^ n ∧ 2 ^ n ≤ 2 * x.toNat) ∧ w = w' := by
  go_enter Try.func76, Try.ntmps76
  go_wp2_with fail
  refine (len64_pow _ h0 h1 w).mono ?_
  rintro e w' ⟨⟨n, rfl, h2, h3⟩, rfl⟩
  go_wp2_with fail
  go_ret
  exact ⟨⟨n, rfl, h2, h3⟩, rfl⟩
/-- The next power of two. -/
theorem npow_any (x : Int) (h0 : 0 < x) (h1 : x < 256) (w : World) : Calls Try.prog 89 #[.int .i64 x] w fun e w' => (∃ m : Int, e = .returned (.int .u64 m) ∧ x < m ∧ m ≤ 2 * x) ∧ w = w' := by
  go_enter Try.func89, Try.ntmps89
  go_wp2_with fail
  refine (len_pow _ h0 h1 w).mono ?_
  rintro e w' ⟨⟨n, rfl, h2, h3⟩, rfl⟩
  go_wp2_with fail
  go_ret
  have hn : n < 9 := by
    rcases Nat.lt_or_ge n 9 with h | h
    · exact h
    · have := Nat.pow_le_pow_right (n := 2) (by decide) h
      omega
  have e1 : min n 64 = n := by omega
  have e2 : ((2 : Int) ^ n) = ((2 ^ n : Nat) : Int) := by rw [Int.natCast_pow]; rfl
  have e3 : IntKind.u64.wrap ((2 : Int) ^ n) = ((2 ^ n : Nat) : Int) := by rw [e2]; exact IntWalk.u64_in _ (by omega)
  exact ⟨⟨((2 ^ n : Nat) : Int), by rw [← e3, e1]; rfl, by omega, by omega⟩, rfl⟩
theorem u64_range {op : BinOp} {a b : Int} : 0 ≤ bits op .u64 a b ∧ bits op .u64 a b < 18446744073709551616 := by
  have := bits_within op .u64 a b
  simp [IntKind.min, IntKind.max, IntKind.signed, IntKind.bits] at this
  omega
theorem fr_new {w W W' : World} {g s : Nat} (h : Fr (· = g) w W) (k : Fr (· = s) W W') (hs : w.heap.size ≤ s) : Fr (· = g) w W' :=
  ⟨k.os.trans h.os, k.tape.trans h.tape, k.output.trans h.output, Nat.le_trans h.size k.size, fun j hj hn => (k.block j (Nat.lt_of_lt_of_le hj h.size) (by omega)).trans (h.block j hj hn)⟩
set_option maxHeartbeats 1000000 in
theorem next_any {w : World} {s : Nat} {r : Int} (h : w.heap[s]? = some (.cells #[.int .u64 r] 137 (0, 0))) : Calls Try.prog 90 #[.pointer (some ⟨s, 0, none⟩)] w fun e w' => (∃ r' : Int, e = .returned (.int .u64 r') ∧ 0 ≤ r' ∧ r' < 18446744073709551616 ∧ w'.heap[s]? = some (.cells #[.int .u64 r'] 137 (0, 0))) ∧ Fr (· = s) w w' := by
  have c0 := cl_of h 0
  have z0 := fz_of h 0
  obtain ⟨v1, hv1⟩ : ∃ v1, bits .xor .u64 r (IntKind.u64.wrap (r * 8192)) = v1 := ⟨_, rfl⟩
  obtain ⟨v2, hv2⟩ : ∃ v2, bits .xor .u64 v1 (v1 / 128) = v2 := ⟨_, rfl⟩
  obtain ⟨v3, hv3⟩ : ∃ v3, bits .xor .u64 v2 (IntKind.u64.wrap (v2 * 131072)) = v3 := ⟨_, rfl⟩
  have hr3 : 0 ≤ v3 ∧ v3 < 18446744073709551616 := by rw [← hv3]; exact u64_range
  go_enter Try.func90, Try.ntmps90
  go_wp2_with fail
  go_region
  obtain ⟨W1, hW1⟩ : ∃ W1, (w.setCell ⟨s, 0, none⟩ (.int .u64 v1)).drew = W1 := ⟨_, rfl⟩
  rw [hW1]
  have h1 : W1.heap[s]? = some (.cells #[.int .u64 v1] 137 (0, 0)) := by rw [← hW1]; exact blk_here h 0 _
  have f1 : Fr (· = s) w W1 := by rw [← hW1]; exact frg_drew (frg_set (Fr.refl _ _) 0 _)
  clear hW1 c0 z0 h hv1
  have c0 := cl_of h1 0
  have z0 := fz_of h1 0
  go_wp2_with fail
  go_region
  obtain ⟨W2, hW2⟩ : ∃ W2, (W1.setCell ⟨s, 0, none⟩ (.int .u64 v2)).drew = W2 := ⟨_, rfl⟩
  rw [hW2]
  have h2 : W2.heap[s]? = some (.cells #[.int .u64 v2] 137 (0, 0)) := by rw [← hW2]; exact blk_here h1 0 _
  have f2 : Fr (· = s) w W2 := by rw [← hW2]; exact frg_drew (frg_set f1 0 _)
  clear hW2 c0 z0 h1 hv2 f1
  have c0 := cl_of h2 0
  have z0 := fz_of h2 0
  go_wp2_with fail
  go_region
  obtain ⟨W3, hW3⟩ : ∃ W3, (W2.setCell ⟨s, 0, none⟩ (.int .u64 v3)).drew = W3 := ⟨_, rfl⟩
  rw [hW3]
  have h3 : W3.heap[s]? = some (.cells #[.int .u64 v3] 137 (0, 0)) := by rw [← hW3]; exact blk_here h2 0 _
  have f3 : Fr (· = s) w W3 := by rw [← hW3]; exact frg_drew (frg_set f2 0 _)
  clear hW3 c0 z0 h2 hv3 f2
  have c0 := cl_of h3 0
  go_wp2_with fail
  go_ret
  exact ⟨⟨v3, rfl, hr3.1, hr3.2, h3⟩, f3⟩

set_option maxHeartbeats 4000000 in
theorem breakp_any {w : World} {g cap : Nat} {d : Array Int} (h : URow w g cap d) (hz : d.size ≤ 255) (a b : Nat) (hab : a ≤ b) (hb : b ≤ d.size) :
    Calls Try.prog 79 #[.slice (some ⟨g, 0, none⟩) d.size cap, .int .i64 a, .int .i64 b] w fun e w' => e = .returned (.tuple #[]) ∧ (∃ D, URow w' g cap D ∧ PermIn a b d D) ∧ Fr (· = g) w w' := by
  have hgl : g < w.heap.size := by
    obtain ⟨cur, hb2, -⟩ := h
    exact (Array.getElem?_eq_some_iff.1 hb2).1
  obtain ⟨l, hl⟩ : ∃ l, b - a = l := ⟨_, rfl⟩
  have en : (b : Int) - (a : Int) = (l : Int) := by omega
  generalize hN : d.size = N at *
  have HNd : Hid (d.size = N) := hN
  clear hN
  by_cases h8 : 8 ≤ l
  · have d8 : decide ((l : Int) ≥ 8) = true := decide_eq_true (by omega)
    have d8n : decide (8 ≤ l) = true := decide_eq_true h8
    have wl : IntKind.u64.wrap (l : Int) = (l : Int) := IntWalk.u64_in _ (by omega)
    have hnp := npow_any (l : Int) (by omega) (by omega)
    have HNP := Lib.hid hnp
    obtain ⟨q, hq⟩ : ∃ q, l / 4 = q := ⟨_, rfl⟩
    have eq4 : (l : Int) / 4 = (q : Int) := by omega
    obtain ⟨C, hC⟩ : ∃ C, a + q * 2 - 1 = C := ⟨_, rfl⟩
    have eC : (a : Int) + (q : Int) * 2 - 1 = (C : Int) := by omega
    have eC2 : (a : Int) + (q : Int) * 2 + 1 = (C : Int) + 2 := by omega
    have hCa : a ≤ C ∧ C + 3 ≤ b := by omega
    clear hnp hq hC
    go_enter Try.func79, Try.ntmps79
    go_wp2_with fail
    refine (HNP.out _).mono ?_
    rintro e w1 ⟨⟨m, rfl, m1, m2⟩, rfl⟩
    have hs0 := hp_new w (.cells #[.int .u64 (l : Int)] 137) rfl
    have hr0 : URow (w.alloc (.cells #[.int .u64 (l : Int)] 137)) g cap d := by
      obtain ⟨cur, hb2, h2⟩ := h
      exact ⟨cur, (hp_old _ _ hgl).trans hb2, h2⟩
    have hf0 : Fr (· = g) w (w.alloc (.cells #[.int .u64 (l : Int)] 137)) := Fr.of_below (bnew w _)
    go_wp2_with fail
    go_loopw [9] (fun v9 wr => ∃ (I : Nat) (D : Array Int) (r : Int), v9 = .int .i64 I ∧ C ≤ I ∧ I ≤ C + 3 ∧ URow wr g cap D ∧ Hid (PermIn a b d D) ∧ wr.heap[w.heap.size]? = some (.cells #[.int .u64 r] 137 (0, 0)) ∧ Fr (· = g) w wr) (fun v9 _ => C + 4 - (intOf v9).toNat)
    case atStart => exact ⟨C, d, l, rfl, Nat.le_refl _, by omega, hr0, Lib.hid (permIn_refl _ _ _), hs0, hf0⟩
    case round =>
      obtain ⟨I, D, r, rfl, hI0, hI3, hr, HP, hs, hf⟩ := hrel
      clear hr0 hs0 hf0 h
      by_cases hlt : I ≤ C + 2
      · have dl : decide ((I : Int) ≤ (C : Int) + 2) = true := decide_eq_true (by omega)
        have dln : decide (I ≤ C + 2) = true := decide_eq_true hlt
        go_wp2_with fail
        refine (next_any hs).mono ?_
        rintro e w2 ⟨⟨r', rfl, r0, r1, hs2⟩, hfn⟩
        have hr2 : URow w2 g cap D := by
          obtain ⟨cur, hb2, h2⟩ := hr
          exact ⟨cur, (hfn.block g (by have := hf.size; omega) (by omega)).trans hb2, h2⟩
        have hf2 := fr_new hf hfn (Nat.le_refl _)
        obtain ⟨o, ho⟩ : ∃ o, bits .and .u64 r' (m - 1) = o := ⟨_, rfl⟩
        have ho2 : 0 ≤ o ∧ o < m := by
          obtain ⟨x, rfl⟩ := Int.eq_ofNat_of_zero_le r0
          obtain ⟨y, hy⟩ := Int.eq_ofNat_of_zero_le (show 0 ≤ m - 1 by omega)
          rw [hy, u64_and_nat x y (by omega) (by omega)] at ho
          have := Nat.and_le_right (n := x) (m := y)
          omega
        have wo : IntKind.i64.wrap o = o := IntWalk.i64_in _ (by omega)
        have wm : IntKind.u64.wrap (m - 1) = m - 1 := IntWalk.u64_in _ (by omega)
        have HSz : Hid (D.size = N) := HP.out.1.trans HNd.out
        clear hr hs hf hfn
        by_cases hol : (l : Int) ≤ o
        · have dol : decide (o ≥ (l : Int)) = true := decide_eq_true hol
          obtain ⟨F, hF⟩ := Int.eq_ofNat_of_zero_le (show 0 ≤ (a : Int) + (o - (l : Int)) by omega)
          have hFb : a ≤ F ∧ F < b := by omega
          have wF : IntKind.i64.wrap (F : Int) = (F : Int) := IntWalk.i64_in _ (by omega)
          have c0 := hr2.cell (i := I) (by rw [HSz.out]; omega)
          have c1 := hr2.cell (i := F) (by rw [HSz.out]; omega)
          have z0 := hr2.frz I
          have z1 := hr2.frz F
          obtain ⟨x, hx⟩ : ∃ x, D[I]! = x := ⟨_, rfl⟩
          obtain ⟨y, hy⟩ : ∃ y, D[F]! = y := ⟨_, rfl⟩
          rw [hx] at c0
          rw [hy] at c1
          have c2 := (hr2.set I y).cell (i := F) (by rw [Array.size_setIfInBounds, HSz.out]; omega)
          have HX := Lib.hid hx
          have HY := Lib.hid hy
          have k0 : (I : Int) < (N : Int) := by omega
          have k1 : (F : Int) < (N : Int) := by omega
          clear hx hy
          go_wp2_with fail
          go_region
          go_wp2_with fail
          go_roundw
          case rel => exact ⟨I + 1, swp D I F, r', by go_num, by omega, by omega, hr2.drew.swp I F HY.out HX.out, Lib.hid (permIn_trans _ _ _ _ _ HP.out (swp_permIn D a b I F (by omega) (by omega) hFb.1 hFb.2 (by rw [HSz.out]; exact hb))), (Below.heap_setCell _ _ _ _ (by show w.heap.size ≠ g; omega)).trans ((Below.heap_setCell _ _ _ _ (by show w.heap.size ≠ g; omega)).trans hs2), frg_set (frg_set (frg_drew hf2) _ _) _ _⟩
          case measure => simp [intOf]; omega
        · have dol : decide (o ≥ (l : Int)) = false := decide_eq_false hol
          obtain ⟨F, hF⟩ := Int.eq_ofNat_of_zero_le (show 0 ≤ (a : Int) + o by omega)
          have hFb : a ≤ F ∧ F < b := by omega
          have wF : IntKind.i64.wrap (F : Int) = (F : Int) := IntWalk.i64_in _ (by omega)
          have c0 := hr2.cell (i := I) (by rw [HSz.out]; omega)
          have c1 := hr2.cell (i := F) (by rw [HSz.out]; omega)
          have z0 := hr2.frz I
          have z1 := hr2.frz F
          obtain ⟨x, hx⟩ : ∃ x, D[I]! = x := ⟨_, rfl⟩
          obtain ⟨y, hy⟩ : ∃ y, D[F]! = y := ⟨_, rfl⟩
          rw [hx] at c0
          rw [hy] at c1
          have c2 := (hr2.set I y).cell (i := F) (by rw [Array.size_setIfInBounds, HSz.out]; omega)
          have HX := Lib.hid hx
          have HY := Lib.hid hy
          have k0 : (I : Int) < (N : Int) := by omega
          have k1 : (F : Int) < (N : Int) := by omega
          clear hx hy
          go_wp2_with fail
          go_region
          go_wp2_with fail
          go_roundw
          case rel => exact ⟨I + 1, swp D I F, r', by go_num, by omega, by omega, hr2.drew.swp I F HY.out HX.out, Lib.hid (permIn_trans _ _ _ _ _ HP.out (swp_permIn D a b I F (by omega) (by omega) hFb.1 hFb.2 (by rw [HSz.out]; exact hb))), (Below.heap_setCell _ _ _ _ (by show w.heap.size ≠ g; omega)).trans ((Below.heap_setCell _ _ _ _ (by show w.heap.size ≠ g; omega)).trans hs2), frg_set (frg_set (frg_drew hf2) _ _) _ _⟩
          case measure => simp [intOf]; omega
      · have dl : decide ((I : Int) ≤ (C : Int) + 2) = false := decide_eq_false (by omega)
        have dln : decide (I ≤ C + 2) = false := decide_eq_false hlt
        go_wp2_with fail
        go_end0
        exact ⟨rfl, ⟨D, hr, HP.out⟩, hf⟩
  · have d8 : decide ((l : Int) ≥ 8) = false := decide_eq_false (by omega)
    have d8n : decide (8 ≤ l) = false := decide_eq_false h8
    go_enter Try.func79, Try.ntmps79
    go_wp2_with fail
    go_end0
    exact ⟨rfl, ⟨d, h, permIn_refl _ _ _⟩, Fr.refl _ _⟩
end Go.Proofs.Ythmabnigdnbdkaa
