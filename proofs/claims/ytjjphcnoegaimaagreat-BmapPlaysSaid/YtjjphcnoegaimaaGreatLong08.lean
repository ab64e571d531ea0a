/- lunettelaw08.long. -/
import Derived.Test.YtjjphcnoegaimaaGreatSteps08
import Derived.Test.YtjjphcnoegaimaaGreatGP
namespace Go.Proofs.YtjjphcnoegaimaaGreat
open Go.RowKit Go.Shelf Go.Maps
set_option maxRecDepth 20000

set_option maxHeartbeats 2000000 in
theorem long8_any {w : World} {v : Value} {ls : List St3} (h : Sl3 w v ls) : Calls Tryz.prog 8 #[v] w fun e w' => ∃ b, e = .returned (.bool b) ∧ (b = false → ls.length ≤ 120) ∧ w = w' := by
  obtain ⟨⟨ao, cap, rfl, hval⟩, hwf⟩ := h
  have HV := Lib.hid hval
  clear hval hwf
  go_enter Tryz.func8, Tryz.ntmps8
  go_wp2_with fail
  go_loopw [3, 4] (fun v3 v4 wr => ∃ k : Nat, ∃ m : Int, k ≤ ls.length ∧ k ≤ 200 ∧ v4 = .int .i64 k ∧ v3 = .int .i64 m ∧ wr = w) (fun _ v4 _ => ls.length - (intOf v4).toNat)
  case atStart => exact ⟨0, 0, Nat.zero_le _, Nat.zero_le _, rfl, rfl, rfl⟩
  case round =>
    obtain ⟨k, m, hk, hk3, rfl, rfl, rfl⟩ := hrel
    by_cases hlt : k < ls.length
    · have dl : decide ((k : Int) < (ls.length : Int)) = true := decide_eq_true (by omega)
      by_cases h3 : k < 200
      · have d3 : decide ((k : Int) < 200) = true := decide_eq_true (by omega)
        obtain ⟨b, off, rfl, hbl, hc⟩ := HV.out (by omega)
        obtain ⟨c0, c1, c2, c3, c4⟩ := hc k hlt
        generalize ls.getD k st0 = x at *
        have HC := Lib.hid hc
        clear hc
        go_wp2_with fail
        go_roundw
        case rel => exact ⟨k + 1, _, by omega, by omega, by go_num, rfl, trivial⟩
        case measure => simp [intOf]; omega
      · have d3 : decide ((k : Int) < 200) = false := decide_eq_false (by omega)
        have d4 : decide ((ls.length : Int) > 120) = true := decide_eq_true (by omega)
        go_wp2_with fail
        go_ret
        exact ⟨_, rfl, (fun h => (by cases h)), rfl⟩
    · have dl : decide ((k : Int) < (ls.length : Int)) = false := decide_eq_false (by omega)
      by_cases h150 : 120 < ls.length
      · have d4 : decide ((ls.length : Int) > 120) = true := decide_eq_true (by omega)
        go_wp2_with fail
        go_ret
        exact ⟨_, rfl, (fun h => (by cases h)), rfl⟩
      · have d4 : decide ((ls.length : Int) > 120) = false := decide_eq_false (by omega)
        go_wp2_with fail
        go_ret
        exact ⟨_, rfl, (fun _ => (by omega)), rfl⟩
end Go.Proofs.YtjjphcnoegaimaaGreat
