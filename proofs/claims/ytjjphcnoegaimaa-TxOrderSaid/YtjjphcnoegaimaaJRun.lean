/- Package journal: run: steps, one behind the other. -/
import Derived.Test.YtjjphcnoegaimaaJRecord
import Derived.WalkMore
import Derived.Deep.LoopGhost
namespace Go.Proofs.Ytjjphcnoegaimaa
open Go.RowKit Go.Shelf Go.Maps
set_option maxRecDepth 20000

/-- What run leaves. -/
def RunPost (Yes No : World → Prop) (e : Ending) (W : World) : Prop := (e = .returned (.int .i64 0) ∧ Yes W) ∨ (e = .returned (.int .i64 30) ∧ No W)
set_option maxHeartbeats 2000000 in
theorem run_any {w : World} (rb cap n : Nat) (id : Nat → Nat) (ad : Nat → Nat) (St : Nat → World → Prop) (No : World → Prop) (hn : n ≤ 1000)
    (hid : ∀ k, k < n → id k = 71 ∨ id k = 19 ∨ id k = 72 ∨ id k = 73 ∨ id k = 74)
    (hcell : ∀ k W, k < n → St k W → W.cell? ⟨rb, k, none⟩ = some (.func (.func (id k)) #[.pointer (some ⟨ad k, 0, none⟩)] #[]))
    (hcall : ∀ k W, k < n → St k W → Calls Try.prog (id k) #[.pointer (some ⟨ad k, 0, none⟩)] W (RunPost (St (k + 1)) No)) (h0 : St 0 w) :
    Calls Try.prog 70 #[.slice (some ⟨rb, 0, none⟩) n cap] w (RunPost (St n) No) := by
  have HC := Lib.hid hcell
  have HK := Lib.hid hcall
  clear hcell hcall
  go_enter Try.func70, Try.ntmps70
  go_wp2_with fail
  go_step3
  go_wp2_with fail
  go_step3
  go_wp2_with fail
  go_loopw [2, 4, 7] (fun v2 _ v7 wr => ∃ k : Nat, k ≤ n ∧ v7 = .int .i64 k ∧ v2 = .int .i64 0 ∧ St k wr) (fun _ _ v7 _ => n - (intOf v7).toNat)
  case atStart => exact ⟨0, Nat.zero_le _, rfl, rfl, h0⟩
  case round =>
    obtain ⟨k, hk, rfl, rfl, hS⟩ := hrel
    by_cases hlt : k < n
    · have c0 := HC.out k wr hlt hS
      have hcl := Lib.hid (HK.out k wr hlt hS)
      have hf := hid k hlt
      generalize id k = f at *
      rcases hf with rfl | rfl | rfl | rfl | rfl
      all_goals
        go_wp2_with fail
        refine hcl.out.mono ?_
        rintro e w1 (⟨rfl, h1⟩ | ⟨rfl, h1⟩)
        · go_wp2_with fail
          go_roundw
          case rel => exact ⟨k + 1, by omega, by go_num, rfl, h1⟩
          case measure => simp [intOf]; omega
        · go_wp2_with fail
          rw [Exit.noGoto_ret]
          go_ret
          exact .inr ⟨rfl, h1⟩
    · obtain rfl : k = n := by omega
      go_wp2_with fail
      rw [Exit.noGoto_ret]
      go_ret
      exact .inl ⟨rfl, hS⟩
end Go.Proofs.Ytjjphcnoegaimaa
