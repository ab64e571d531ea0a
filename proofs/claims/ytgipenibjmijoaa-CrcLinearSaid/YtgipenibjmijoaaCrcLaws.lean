/- What the laws of the sum share: the chapter's examples hold. -/
import Derived.Test.YtgipenibjmijoaaCrcOpen
namespace Go.Proofs.Ytgipenibjmijoaa
open Go.RowKit

def digits9 : List UInt8 := [49, 50, 51, 52, 53, 54, 55, 56, 57]
theorem opened_1 : opened [0, 0, 0, 0] = ([], 0) := by decide +kernel
theorem opened_2 : opened [1, 0, 0, 0] = ([], 7) := by decide +kernel
theorem opened_3 : opened [0] = ([], 6) := by decide +kernel
theorem sum_1 : sum (joined [bs [49, 50, 51, 52, 53, 54, 55, 56, 57]]) = 3421780262 := by decide +kernel
theorem sum_2 : sum (joined [bs [49, 50, 51, 52], bs [53, 54, 55, 56, 57]]) = 3421780262 := by decide +kernel

theorem cells1 (w : World) (s : ByteArray) (t : TypeId) : ∀ i (h : i < [s].length), (w.alloc (.cells #[.string s] t)).cell? ⟨w.heap.size, i, none⟩ = some (.string [s][i]) := by
  intro i hi
  obtain rfl : i = 0 := by simpa using hi
  exact cl_of (hp_new w _ rfl) 0
theorem cells2 (w : World) (s u : ByteArray) (t : TypeId) : ∀ i (h : i < [s, u].length), (w.alloc (.cells #[.string s, .string u] t)).cell? ⟨w.heap.size, i, none⟩ = some (.string [s, u][i]) := by
  intro i hi
  rw [cl_of (hp_new w _ rfl) i]
  simp at hi
  rcases i with _ | _ | i
  · rfl
  · rfl
  · omega

set_option maxHeartbeats 1000000 in
theorem alive_any (w : World) : Calls Try.prog 7 #[] w fun e w' => e = .returned (.bool true) ∧ Below w.heap.size w w' := by
  go_enter Try.func7, Try.ntmps7
  go_wp2_with fail
  refine (open_any [0, 0, 0, 0] (by decide) _).mono ?_
  rw [opened_1]
  rintro e w1 ⟨rfl, h1⟩
  go_wp2_with fail
  refine (open_any [1, 0, 0, 0] (by decide) _).mono ?_
  rw [opened_2]
  rintro e w2 ⟨rfl, h2⟩
  go_wp2_with fail
  refine (open_any [0] (by decide) _).mono ?_
  rw [opened_3]
  rintro e w3 ⟨rfl, h3⟩
  have z3 := (h1.trans (h2.mono h1.size))
  have y3 := z3.trans (h3.mono z3.size)
  clear h1 h2 h3 z3
  go_wp2_with fail
  refine (sum_any w3.heap.size 1 [bs [49, 50, 51, 52, 53, 54, 55, 56, 57]] _ (by simp) (by simp) (cells1 _ _ _) (by decide)).mono ?_
  rw [sum_1]
  rintro e w4 ⟨rfl, h4⟩
  go_wp2_with fail
  refine (sum_any w4.heap.size 2 [bs [49, 50, 51, 52], bs [53, 54, 55, 56, 57]] _ (by simp) (by simp) (cells2 _ _ _ _) (by decide)).mono ?_
  rw [sum_2]
  rintro e w5 ⟨rfl, h5⟩
  go_wp2_with fail
  refine (sum_nil _).mono ?_
  rintro e w6 ⟨rfl, rfl⟩
  have hq : (bs []).toList.isEmpty = true := by rw [bs_toList]; rfl
  go_wp2_with fail
  go_ret
  have a4 := (y3.alloc y3.size _).trans (h4.mono (by have := y3.size; simp; omega))
  exact ⟨rfl, (a4.alloc a4.size _).trans (h5.mono (by have := a4.size; simp at this ⊢; omega))⟩

theorem wf_u32 {x : Int} (h : (Lit.int .u32 x).wf = true) : 0 ≤ x ∧ x < 4294967296 := by
  simp [Lit.wf, IntKind.min, IntKind.max, IntKind.signed, IntKind.bits] at h
  omega

theorem joined2 (l m : List UInt8) : joined [bs l, bs m] = l ++ m := by simp [joined, bs_data]

set_option maxHeartbeats 2000000 in
theorem tells_walk (a0 : Int) (a1 a2 : ByteArray) (w0 : (Lit.int .u32 a0).wf = true) (w1 : a1.size ≤ 140737488351232) (w2 : a2.size ≤ 140737488351232) (w : World) :
    Calls Try.prog 3 #[.int .u32 a0, .string a1, .string a2] w fun e w' => e = .returned (.bool true) ∧ Below w.heap.size w w' := by
  obtain ⟨l1, rfl⟩ : ∃ l, a1 = bs l := ⟨_, (bs_of a1).symm⟩
  obtain ⟨l2, rfl⟩ : ∃ l, a2 = bs l := ⟨_, (bs_of a2).symm⟩
  obtain ⟨c0, c1⟩ := wf_u32 w0
  clear w0
  rw [bs_size] at w1 w2
  have s1 := bs_size l1
  have s2 := bs_size l2
  by_cases hlong : 8192 < l1.length + l2.length
  · go_enter Try.func3, Try.ntmps3
    go_wp2_with fail
    refine (alive_any _).mono ?_
    rintro e w1 ⟨rfl, hB⟩
    go_wp2_with fail
    go_ret
    exact ⟨rfl, hB⟩
  · have m1 : l1.length ≤ maxLen := by unfold maxLen; omega
    have m2 : l2.length ≤ maxLen := by unfold maxLen; omega
    have M1 := Lib.hid m1
    have M2 := Lib.hid m2
    clear m1 m2
    go_enter Try.func3, Try.ntmps3
    go_wp2_with fail
    refine (open_any _ M1.out _).mono ?_
    rintro e x1 ⟨rfl, h1⟩
    go_wp2_with fail
    refine (refOpen_any _ M1.out _).mono ?_
    rintro e x2 ⟨rfl, h2⟩
    go_wp2_with fail
    refine (more_go _ c0 c1 _ (by rw [bs_size]; exact M1.out) _).mono ?_
    rintro e x3 ⟨rfl, h3⟩
    go_wp2_with fail
    refine (refMore_any _ c0 c1 _ (by rw [bs_size]; exact M1.out) _).mono ?_
    rintro e x4 ⟨rfl, rfl⟩
    have y2 := h1.trans (h2.mono h1.size)
    have y3 := y2.trans (h3.mono y2.size)
    clear h1 h2 h3 y2
    go_wp2_with fail
    refine (sum_any x3.heap.size 2 [bs l1, bs l2] _ (by simp) (by simp) (cells2 _ _ _ _) (by intro s hs; simp at hs; rcases hs with rfl | rfl; rw [bs_size]; exact M1.out; rw [bs_size]; exact M2.out)).mono ?_
    rw [joined2]
    rintro e x5 ⟨rfl, h5⟩
    have y5 := (y3.alloc y3.size (.cells #[.string (bs l1), .string (bs l2)] 9)).trans (h5.mono (by have := y3.size; simp; omega))
    clear h5 y3
    have ha := bs_append l1 l2
    go_wp2_with fail
    refine (refSum_any _ (by rw [bs_size, List.length_append]; unfold maxLen; omega) _).mono ?_
    rw [bs_data]
    rintro e x6 ⟨rfl, rfl⟩
    go_wp2_with fail
    refine (seal_any _ (by rw [bs_size]; unfold maxLen; omega) _).mono ?_
    rintro e x7 ⟨rfl, h7⟩
    go_wp2_with fail
    refine (refSeal_any _ (by rw [bs_size]; unfold maxLen; omega) _).mono ?_
    rintro e x8 ⟨rfl, h8⟩
    go_wp2_with fail
    refine (alive_any _).mono ?_
    rintro e x9 ⟨rfl, h9⟩
    go_wp2_with fail
    go_ret
    have y7 := y5.trans (h7.mono y5.size)
    have y8 := y7.trans (h8.mono y7.size)
    exact ⟨rfl, y8.trans (h9.mono y8.size)⟩
end Go.Proofs.Ytgipenibjmijoaa
