/- Sorting rows of uint64: the walks through cmp.Less and the insertion sort. -/
import Derived.Test.YthmabnigdnbdkaaProg
import Derived.Test.YthmabnigdnbdkaaRow
import Derived.Sort.AssemblyPlain
import Derived.Deep.QuietTactic
import Derived.BigQuiet
namespace Go.Proofs.Ythmabnigdnbdkaa
open Go.RowKit
set_option maxRecDepth 20000

theorem isnan_any (x : Int) (w : World) : Calls Try.prog 93 #[.int .u64 x] w fun e w' => e = .returned (.bool false) ∧ w = w' := by
  go_enter Try.func93, Try.ntmps93
  go_wp2_with fail
  go_ret
  exact ⟨rfl, rfl⟩
set_option maxHeartbeats 400000 in
theorem less_yes {x y : Int} (h : x < y) (w : World) : Calls Try.prog 83 #[.int .u64 x, .int .u64 y] w fun e w' => e = .returned (.bool true) ∧ w' = w := by
  have hd : decide (x < y) = true := by simpa using h
  go_enter Try.func83, Try.ntmps83
  go_wp2_with (go_at_call 93; refine (isnan_any _ _).mono ?_; rintro e w' ⟨rfl, rfl⟩)
  go_ret
  exact ⟨rfl, rfl⟩
set_option maxHeartbeats 400000 in
theorem less_no {x y : Int} (h : ¬ x < y) (w : World) : Calls Try.prog 83 #[.int .u64 x, .int .u64 y] w fun e w' => e = .returned (.bool false) ∧ w' = w := by
  have hd : decide (x < y) = false := by simpa using h
  go_enter Try.func83, Try.ntmps83
  go_wp2_with (go_at_call 93; refine (isnan_any _ _).mono ?_; rintro e w' ⟨rfl, rfl⟩)
  go_ret
  exact ⟨rfl, rfl⟩

/-- A row of numbers in a block of its own. -/
def URow (W : World) (g cap : Nat) (d : Array Int) : Prop := ∃ cur, W.heap[g]? = some (.cells cur 30 (0, 0)) ∧ cur.size = cap ∧ d.size ≤ cap ∧ ∀ i, i < d.size → cur[i]? = some (.int .u64 d[i]!)
theorem URow.cell {W : World} {g cap : Nat} {d : Array Int} (h : URow W g cap d) {i : Nat} (hi : i < d.size) : W.cell? ⟨g, i, none⟩ = some (.int .u64 d[i]!) := by
  obtain ⟨cur, hb, _, _, hc⟩ := h
  rw [cl_of hb, hc i hi]
theorem URow.frz {W : World} {g cap : Nat} {d : Array Int} (h : URow W g cap d) (i : Nat) : W.frozen? ⟨g, i, none⟩ = false := by
  obtain ⟨cur, hb, _⟩ := h
  exact fz_of hb i
theorem URow.drew {W : World} {g cap : Nat} {d : Array Int} (h : URow W g cap d) : URow W.drew g cap d := h
theorem URow.drewN {W : World} {g cap n : Nat} {d : Array Int} (h : URow W g cap d) : URow (W.drewN n) g cap d := by
  obtain ⟨cur, hb, h1⟩ := h
  exact ⟨cur, by rw [← hb]; simp, h1⟩
theorem URow.set {W : World} {g cap : Nat} {d : Array Int} (h : URow W g cap d) (i : Nat) (x : Int) : URow (W.setCell ⟨g, i, none⟩ (.int .u64 x)) g cap (d.setIfInBounds i x) := by
  obtain ⟨cur, hb, h1, h2, h3⟩ := h
  obtain ⟨hlt, _⟩ := Array.getElem?_eq_some_iff.1 hb
  refine ⟨cur.setIfInBounds i (.int .u64 x), ?_, by simpa using h1, by simpa using h2, ?_⟩
  · simp [World.setCell, Array.getElem?_modify, hb]
  · intro k hk
    have hk' : k < d.size := by simpa using hk
    have := h3 k hk'
    by_cases e : i = k
    · subst e
      rw [Array.getElem?_setIfInBounds_self_of_lt (by omega)]
      simp [hk']
    · rw [Array.getElem?_setIfInBounds_ne e, this]
      have : (d.setIfInBounds i x)[k]! = d[k]! := by simp [getElem!_def, Array.getElem?_setIfInBounds_ne e]
      rw [this]
/-- An exchange. -/
theorem URow.swp {W : World} {g cap : Nat} {d : Array Int} (h : URow W g cap d) (i j : Nat) {x y : Int} (hx : d[j]! = x) (hy : d[i]! = y) :
    URow ((W.setCell ⟨g, i, none⟩ (.int .u64 x)).setCell ⟨g, j, none⟩ (.int .u64 y)) g cap (Sort.swp d i j) := by
  subst hx hy
  exact (h.set i _).set j _
/-- Of what lay in w nothing has turned in W but block g. -/
theorem frg_set {w W : World} {g : Nat} (h : Fr (· = g) w W) (i : Nat) (v : Value) : Fr (· = g) w (W.setCell ⟨g, i, none⟩ v) :=
  ⟨h.os, h.tape, h.output, by simpa [World.setCell] using h.size, fun k hk hs => (Below.heap_setCell W _ v k hs).trans (h.block k hk hs)⟩
theorem frg_drew {w W : World} {g : Nat} (h : Fr (· = g) w W) : Fr (· = g) w W.drew := ⟨h.os, h.tape, h.output, h.size, h.block⟩

theorem fr_drewN {S : Nat → Prop} (W : World) (n : Nat) : Fr S W (W.drewN n) := ⟨rfl, rfl, rfl, Nat.le_refl _, fun _ _ _ => rfl⟩

set_option maxHeartbeats 2000000 in
theorem insort_any {w : World} {g cap : Nat} {d : Array Int} (h : URow w g cap d) (hz : d.size ≤ 1000000) (a b : Nat) (hb : b ≤ d.size) (ha : a ≤ b) :
    Calls Try.prog 77 #[.slice (some ⟨g, 0, none⟩) d.size cap, .int .i64 a, .int .i64 b] w fun e w' => e = .returned (.tuple #[]) ∧ URow w' g cap (Sort.insertionSort Sort.ltInt d a b) ∧ Fr (· = g) w w' := by
  have hS : Sort.insertionSort Sort.ltInt d a b = Sort.insOuter Sort.ltInt a b (a + 1) d := rfl
  rw [hS]
  generalize hD : Sort.insOuter Sort.ltInt a b (a + 1) d = D
  have HD := Lib.hid hD
  clear hD hS
  generalize hN : d.size = N at *
  go_enter Try.func77, Try.ntmps77
  go_wp2_with fail
  go_loopw [6, 7] (fun v6 v7 wr => ∃ i : Nat, ∃ d' : Array Int, a + 1 ≤ i ∧ v6 = .int .i64 i ∧ URow wr g cap d' ∧ Hid (d'.size = N) ∧ Hid (Sort.insOuter Sort.ltInt a b i d' = D) ∧ Fr (· = g) w wr) (fun v6 _ _ => b + 1 - (intOf v6).toNat)
  case atStart => exact ⟨a + 1, d, Nat.le_refl _, by go_num, h, Lib.hid hN, HD, Fr.refl _ _⟩
  case round =>
    obtain ⟨i, d', hai, rfl, hr, HZ, HI, hf⟩ := hrel
    rw [Sort.insOuter] at HI
    by_cases hlt : i < b
    · rw [if_pos hlt] at HI
      go_wp2_with fail
      go_loopw [7] (fun v7 wr2 => ∃ j : Nat, ∃ d2 : Array Int, j ≤ i ∧ v7 = .int .i64 j ∧ URow wr2 g cap d2 ∧ Hid (d2.size = N) ∧ Hid (Sort.insInner Sort.ltInt a j d2 = Sort.insInner Sort.ltInt a i d') ∧ Fr (· = g) w wr2) (fun v7 _ => (intOf v7).toNat)
      case atStart => exact ⟨i, d', Nat.le_refl _, rfl, hr, HZ, Lib.hid rfl, hf⟩
      case round =>
        obtain ⟨j, d2, hji, rfl, hr2, HZ2, HI2, hf2⟩ := hrel
        clear hr HZ hf h
        by_cases hja : a < j
        · obtain ⟨k, rfl⟩ : ∃ k, j = k + 1 := ⟨j - 1, by omega⟩
          have hc1 := hr2.cell (i := k + 1) (by rw [HZ2.out]; omega)
          have hc0 := hr2.cell (i := k) (by rw [HZ2.out]; omega)
          have hz1 := hr2.frz (k + 1)
          have hz0 := hr2.frz k
          obtain ⟨x, hx⟩ : ∃ x, d2[k + 1]! = x := ⟨_, rfl⟩
          obtain ⟨y, hy⟩ : ∃ y, d2[k]! = y := ⟨_, rfl⟩
          rw [hx] at hc1
          rw [hy] at hc0
          have HX := Lib.hid hx
          have HY := Lib.hid hy
          clear hx hy
          have hd : decide ((a : Int) < (k : Int) + 1) = true := by simp; omega
          have hn0 : (k : Int) + 1 < (N : Int) := by omega
          have hn1 : (0 : Int) ≤ (k : Int) + 1 := by omega
          have hn2 : (k : Int) < (N : Int) := by omega
          have hn3 : ((k : Int) + 1).toNat = k + 1 := by omega
          have hn4 : IntKind.i64.wrap ((k : Int) + 1 - 1) = k := by rw [IntWalk.i64_in _ (by omega)]; omega
          have hn5 : IntKind.i64.wrap (k : Int) = k := IntWalk.i64_in _ (by omega)
          by_cases hxy : x < y
          · go_wp2_with fail
            go_quiet ((go_at_call 83; exact Calls.quiet_of_same (less_yes hxy _)))
            go_wp2_with fail
            go_region
            have hstep : Sort.insInner Sort.ltInt a (k + 1) d2 = Sort.insInner Sort.ltInt a k (Sort.swp d2 (k + 1) k) := by
              rw [Sort.insInner, if_pos (by rw [HX.out, HY.out]; simp [Sort.ltInt, hxy]; omega)]
            go_wp2_with fail
            go_roundw
            case rel => exact ⟨k, Sort.swp d2 (k + 1) k, by omega, by go_num, hr2.drewN.swp _ _ HY.out HX.out, Lib.hid (by rw [← HZ2.out]; simp [Sort.swp]), Lib.hid (by rw [← hstep, HI2.out]), frg_set (frg_set (hf2.trans (fr_drewN _ _)) _ _) _ _⟩
            case measure => simp [intOf]
          · go_wp2_with fail
            go_quiet ((go_at_call 83; exact Calls.quiet_of_same (less_no (by omega) _)))
            go_wp2_with fail
            have hstep : Sort.insInner Sort.ltInt a (k + 1) d2 = d2 := by
              rw [Sort.insInner, if_neg (by rw [HX.out, HY.out]; simp [Sort.ltInt, hxy])]
            rw [hstep] at HI2
            refine ⟨⟨i + 1, d2, by omega, by go_num, hr2.drewN, HZ2, Lib.hid (by rw [HI2.out, HI.out]), hf2.trans (fr_drewN _ _)⟩, by simp [intOf]; omega⟩
        · have hd : decide ((a : Int) < (j : Int)) = false := by simp; omega
          go_wp2_with fail
          go_quiet (fail)
          go_wp2_with fail
          have hstep : Sort.insInner Sort.ltInt a j d2 = d2 := by
            cases j with
            | zero => rfl
            | succ k => rw [Sort.insInner, if_neg (by simp; omega)]
          rw [hstep] at HI2
          refine ⟨⟨i + 1, d2, by omega, by go_num, hr2.drewN, HZ2, Lib.hid (by rw [HI2.out, HI.out]), hf2.trans (fr_drewN _ _)⟩, by simp [intOf]; omega⟩
    · rw [if_neg hlt] at HI
      go_wp2_with fail
      go_end0
      exact ⟨rfl, HI.out ▸ hr, hf⟩
end Go.Proofs.Ythmabnigdnbdkaa
