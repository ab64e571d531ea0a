/- lunettelaw03.text, long. -/
import Derived.Test.YtjjphcnoegaimaaSteps03
import Derived.Test.YtjjphcnoegaimaaLaw03
namespace Go.Proofs.Ytjjphcnoegaimaa
open Go.RowKit Go.Shelf Go.Maps
set_option maxRecDepth 20000

def st3v (x : St3) : Value := .agg #[.int .i64 x.op, .int .i64 x.i, .int .i64 x.k, .string x.s, .bool x.raw]
/-- What a step writes. -/
def tx3 (x : St3) : ByteArray := if x.raw = true then x.s else sec x.s
set_option maxHeartbeats 1000000 in
theorem text_any (x : St3) (w : World) : Calls Try.prog 17 #[st3v x] w fun e w' => e = .returned (.string (tx3 x)) ∧ Below w.heap.size w w' := by
  unfold st3v
  obtain ⟨op, i, k, s, raw⟩ := x
  have hs := sector_any s (w.alloc (.cells #[.int .i64 op, .int .i64 i, .int .i64 k, .string s, .bool raw] 31))
  have HS := Lib.hid hs
  clear hs
  cases raw
  · go_enter Try.func17, Try.ntmps17
    go_wp2_with fail
    refine HS.out.mono ?_
    rintro e w1 ⟨rfl, hB⟩
    go_wp2_with fail
    go_ret
    exact ⟨rfl, bt (bnew _ _) hB⟩
  · go_enter Try.func17, Try.ntmps17
    go_wp2_with fail
    go_ret
    exact ⟨rfl, bnew _ _⟩
set_option maxHeartbeats 2000000 in
theorem long_any {w : World} {v : Value} {ls : List St3} (h : Sl3 w v ls) : Calls Try.prog 12 #[v] w fun e w' => ∃ b, e = .returned (.bool b) ∧ (b = false → ls.length ≤ 150) ∧ w = w' := by
  obtain ⟨⟨ao, cap, rfl, hval⟩, hwf⟩ := h
  have HV := Lib.hid hval
  clear hval hwf
  go_enter Try.func12, Try.ntmps12
  go_wp2_with fail
  go_loopw [3, 4] (fun v3 v4 wr => ∃ k : Nat, ∃ m : Int, k ≤ ls.length ∧ k ≤ 300 ∧ v4 = .int .i64 k ∧ v3 = .int .i64 m ∧ wr = w) (fun _ v4 _ => ls.length - (intOf v4).toNat)
  case atStart => exact ⟨0, 0, Nat.zero_le _, Nat.zero_le _, rfl, rfl, rfl⟩
  case round =>
    obtain ⟨k, m, hk, hk3, rfl, rfl, rfl⟩ := hrel
    by_cases hlt : k < ls.length
    · have dl : decide ((k : Int) < (ls.length : Int)) = true := decide_eq_true (by omega)
      by_cases h3 : k < 300
      · have d3 : decide ((k : Int) < 300) = true := decide_eq_true (by omega)
        obtain ⟨b, off, rfl, hbl, hc⟩ := HV.out (by omega)
        obtain ⟨c0, c1, c2, c3, c4⟩ := hc k hlt
        generalize ls.getD k st0 = x at *
        have HC := Lib.hid hc
        clear hc
        go_wp2_with fail
        go_roundw
        case rel => exact ⟨k + 1, _, by omega, by omega, by go_num, rfl, trivial⟩
        case measure => simp [intOf]; omega
      · have d3 : decide ((k : Int) < 300) = false := decide_eq_false (by omega)
        have d4 : decide ((ls.length : Int) > 150) = true := decide_eq_true (by omega)
        go_wp2_with fail
        go_ret
        exact ⟨_, rfl, (fun h => (by cases h)), rfl⟩
    · have dl : decide ((k : Int) < (ls.length : Int)) = false := decide_eq_false (by omega)
      by_cases h150 : 150 < ls.length
      · have d4 : decide ((ls.length : Int) > 150) = true := decide_eq_true (by omega)
        go_wp2_with fail
        go_ret
        exact ⟨_, rfl, (fun h => (by cases h)), rfl⟩
      · have d4 : decide ((ls.length : Int) > 150) = false := decide_eq_false (by omega)
        go_wp2_with fail
        go_ret
        exact ⟨_, rfl, (fun _ => (by omega)), rfl⟩
end Go.Proofs.Ytjjphcnoegaimaa
