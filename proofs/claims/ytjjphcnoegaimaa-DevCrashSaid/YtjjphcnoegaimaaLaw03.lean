/- lunetteref01.Pad, lunettelaw03.Sector, lunetteref03.Same. -/
import Derived.Test.YtjjphcnoegaimaaDevN
import Derived.Test.YtjjphcnoegaimaaZero
namespace Go.Proofs.Ytjjphcnoegaimaa
open Go.RowKit Go.Shelf Go.Maps
set_option maxRecDepth 20000

/-- A text as a sector's bytes. -/
def sec (s : ByteArray) : ByteArray := bs (s.data.toList.take 64 ++ zeros (64 - (s.data.toList.take 64).length))
theorem sec_size (s : ByteArray) : (sec s).size = 64 := by
  rw [sec, bs_size]
  simp only [List.length_append, zeros_length, List.length_take]
  omega

set_option maxHeartbeats 1000000 in
theorem rpad_any (l : List UInt8) (n : Nat) (h : l.length ≤ n) (hn : n ≤ 60000) (w : World) : Calls Try.prog 60 #[.string (bs l), .int .i64 n] w fun e w' => e = .returned (.tuple #[.string (bs (l ++ zeros (n - l.length))), .int .i64 0]) ∧ Below w.heap.size w w' := by
  have hs := bs_size l
  have hmk := make_zeros (n - l.length) (by omega)
  have hcv := conv_new (zeros (n - l.length)) (n - l.length) (zeros_length _)
  have HA := bs_append l (zeros (n - l.length))
  have hz : (bs (zeros (n - l.length))).size = n - l.length := by rw [bs_size, zeros_length]
  have ei : ((n - l.length : Nat) : Int) = (n : Int) - (l.length : Int) := by omega
  have d1 : decide ((n : Int) < 0) = false := decide_eq_false (by omega)
  have d2 : decide ((n : Int) > 65536) = false := decide_eq_false (by omega)
  have d3 : decide ((l.length : Int) > (n : Int)) = false := decide_eq_false (by omega)
  rw [ei] at hmk
  have EI := Lib.hid ei
  clear ei
  go_enter Try.func60, Try.ntmps60
  go_wp2_with fail
  go_ret2
  exact ⟨rfl, bnew _ _⟩

set_option maxHeartbeats 1000000 in
theorem sector_any (s : ByteArray) (w : World) : Calls Try.prog 15 #[.string s] w fun e w' => e = .returned (.string (sec s)) ∧ Below w.heap.size w w' := by
  have hpad : ∀ w : World, Calls Try.prog 60 #[.string (bs (s.data.toList.take 64)), .int .i64 64] w fun e w' => e = .returned (.tuple #[.string (sec s), .int .i64 0]) ∧ Below w.heap.size w w' := rpad_any (s.data.toList.take 64) 64 (by simp; omega) (by decide)
  have HP := Lib.hid hpad
  clear hpad
  have hx : s.extract 0 (min (s.size : Int) 64).toNat = bs (s.data.toList.take 64) := by
    rw [show (min (s.size : Int) 64).toNat = min s.size 64 by omega]
    rw [← bs_of s, bs_take', bs_size, bs_data]
    congr 1
    by_cases h : s.data.toList.length ≤ 64
    · rw [Nat.min_eq_left h, List.take_of_length_le (Nat.le_refl _), List.take_of_length_le h]
    · rw [Nat.min_eq_right (by omega)]
  go_enter Try.func15, Try.ntmps15
  go_wp2_with fail
  refine (HP.out w).mono ?_
  rintro e w1 ⟨rfl, hB⟩
  go_wp2_with fail
  go_ret
  exact ⟨rfl, hB⟩

/-- A row of numbers, as its slice lies. -/
def IntsAt (W : World) (v : Value) (l : List Int) : Prop := ∃ a c, v = .slice a l.length c ∧ ∀ g, a = some g → ∀ (j : Nat) (x : Int), l[j]? = some x → W.cell? (g.add j) = some (.int .i64 x)
theorem IntsAt.of_own {W : World} {B : Nat} {v : Value} {l : List Int} (h : W.ownsRow B 3 1 v l.length (l.map (Value.int .i64))) : ∃ g c, (v = .slice (some ⟨g, 0, none⟩) l.length c ∧ ∀ (j : Nat) (x : Int), l[j]? = some x → W.cell? ⟨g, j, none⟩ = some (.int .i64 x)) ∨ (v = .slice none 0 0 ∧ l = []) := by
  rcases h.2 with ⟨rfl, h0⟩ | ⟨g, c, cur, rfl, hg, hh, hr⟩
  · exact ⟨0, 0, .inr ⟨rfl, List.eq_nil_of_length_eq_zero h0⟩⟩
  · refine ⟨g, c, .inl ⟨rfl, fun j x hj => ?_⟩⟩
    have h' : W.ownsRow 0 3 1 (.slice (some ⟨g, 0, none⟩) l.length c) l.length (l.map (Value.int .i64)) := ownsRow_base h
    exact ownsRow_cell h' rfl (by rw [List.getElem?_map, hj]; rfl)

set_option maxHeartbeats 2000000 in
/-- Two rows of the same numbers. -/
theorem rsame_yes (l : List Int) (g1 c1 g2 c2 : Nat) (hl : l.length ≤ 100000) (w : World) (h1 : ∀ (j : Nat) (x : Int), l[j]? = some x → w.cell? ⟨g1, j, none⟩ = some (.int .i64 x)) (h2 : ∀ (j : Nat) (x : Int), l[j]? = some x → w.cell? ⟨g2, j, none⟩ = some (.int .i64 x)) :
    Calls Try.prog 58 #[.slice (some ⟨g1, 0, none⟩) l.length c1, .slice (some ⟨g2, 0, none⟩) l.length c2] w fun e w' => e = .returned (.bool true) ∧ Below w.heap.size w w' := by
  have HH1 := Lib.hid h1
  have HH2 := Lib.hid h2
  clear h1 h2
  go_enter Try.func58, Try.ntmps58
  go_wp2_with fail
  go_loopw [5] (fun v5 wr => ∃ k : Nat, k ≤ l.length ∧ v5 = .int .i64 k ∧ Below w.heap.size w wr ∧ (∀ (j : Nat) (x : Int), l[j]? = some x → wr.cell? ⟨g1, j, none⟩ = some (.int .i64 x)) ∧ (∀ (j : Nat) (x : Int), l[j]? = some x → wr.cell? ⟨g2, j, none⟩ = some (.int .i64 x))) (fun v5 _ => l.length - (intOf v5).toNat)
  case atStart => exact ⟨0, Nat.zero_le _, rfl, Below.refl _ _, HH1.out, HH2.out⟩
  case round =>
    obtain ⟨k, hk, rfl, hB, h1, h2⟩ := hrel
    by_cases hlt : k < l.length
    · have q1 := h1 k l[k] (List.getElem?_eq_getElem hlt)
      have q2 := h2 k l[k] (List.getElem?_eq_getElem hlt)
      have K1 := Lib.hid h1
      have K2 := Lib.hid h2
      clear h1 h2
      generalize l[k] = x at *
      go_wp2_with fail
      go_region
      all_goals
        go_wp2_with fail
        go_roundw
        case rel => exact ⟨k + 1, by omega, by go_num, hB.drew, K1.out, K2.out⟩
        case measure => simp [intOf]; omega
    · obtain rfl : k = l.length := by omega
      go_wp2_with fail
      go_ret
      exact ⟨rfl, hB⟩
end Go.Proofs.Ytjjphcnoegaimaa
