/- The law InodeSizes: a size has just as many pages as hold it. -/
import Derived.Test.YtcdmipgopffaaaaInoAlive
namespace Go.Proofs.Ytcdmipgopffaaaa
open Go.RowKit
set_option maxRecDepth 20000

set_option maxHeartbeats 4000000 in
theorem sizes_walk (a b : Int) (wa : (Lit.int .u32 a).wf = true) (wb : (Lit.int .u32 b).wf = true) (w : World) :
    Calls Try.prog 8 #[.int .u32 a, .int .u32 b] w fun e w' => e = .returned (.bool true) ∧ Below w.heap.size w w' := by
  obtain ⟨a0, a1⟩ := wfu32 wa
  obtain ⟨b0, b1⟩ := wfu32 wb
  clear wa wb
  by_cases ha : 2304 < a
  · go_enter Try.func8, Try.ntmps8
    go_wp2_with fail
    refine (alive07 _).mono ?_
    rintro e w1 ⟨rfl, hB⟩
    go_wp2_with fail
    go_ret
    exact ⟨rfl, hB⟩
  · by_cases hb : 2304 < b
    · go_enter Try.func8, Try.ntmps8
      go_wp2_with fail
      refine (alive07 _).mono ?_
      rintro e w1 ⟨rfl, hB⟩
      go_wp2_with fail
      go_ret
      exact ⟨rfl, hB⟩
    · have ca := pages_any a a0 a1
      have cb := pages_any b b0 b1
      have p0 : 0 ≤ pages a ∧ pages a ≤ 36 := by unfold pages; omega
      have p1 : a ≤ pages a * 64 := by unfold pages; omega
      have p2 : 0 < pages a → (pages a - 1) * 64 < a := by unfold pages; omega
      have p3 : a ≤ b → pages a ≤ pages b := by unfold pages; omega
      generalize pages a = P at *
      generalize pages b = Q at *
      obtain ⟨p4, p5⟩ := p0
      have CA := Lib.hid ca
      have CB := Lib.hid cb
      clear ca cb
      by_cases hp : 0 < P
      all_goals
        first | (have p6 := p2 hp) | skip
        have P2 := Lib.hid p2
        clear p2
        by_cases hab : a ≤ b
        all_goals
          first | (have p7 := p3 hab) | skip
          have P3 := Lib.hid p3
          clear p3
          go_enter Try.func8, Try.ntmps8
          go_wp2_with fail
          refine (CA.out _).mono ?_
          rintro e w1 ⟨rfl, rfl⟩
          go_wp2_with fail
          refine (CB.out _).mono ?_
          rintro e w1 ⟨rfl, rfl⟩
          go_wp2_with fail
          all_goals
            refine (alive07 _).mono ?_
            rintro e w2 ⟨rfl, hB⟩
            go_wp2_with fail
            go_ret
            exact ⟨rfl, hB⟩
end Go.Proofs.Ytcdmipgopffaaaa
