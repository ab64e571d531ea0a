/- The law CrcBack: what is sealed opens as it was, what opens was sealed; a register takes two texts as one. -/
import Derived.Test.YtgipenibjmijoaaCrcLaws
namespace Go.Proofs.Ytgipenibjmijoaa
open Go.RowKit

theorem opened_sealed (l : List UInt8) : opened (sealed l) = (l, 0) := by
  have hl := sealed_length l
  have ht : (sealed l).take ((sealed l).length - 4) = l := by
    rw [hl]
    unfold sealed
    simp
  rw [opened, if_neg (by omega), ht, if_pos rfl]

theorem opened_cases (l : List UInt8) : ((opened l).2 = 0 ∧ sealed (opened l).1 = l) ∨ ((opened l).2 = 6 ∨ (opened l).2 = 7) := by
  unfold opened
  split
  · exact .inr (.inl rfl)
  · split
    · rename_i h
      exact .inl ⟨rfl, h⟩
    · exact .inr (.inr rfl)

theorem opened_short (l : List UInt8) : (opened l).1.length ≤ l.length := by
  unfold opened
  split
  · simp
  · split
    · simp
    · simp

set_option maxHeartbeats 2000000 in
theorem back_walk (a0 a1 : ByteArray) (a2 : Int) (w0 : a0.size ≤ 140737488351232) (w1 : a1.size ≤ 140737488351232) (w2 : (Lit.int .u32 a2).wf = true) (w : World) :
    Calls Try.prog 4 #[.string a0, .string a1, .int .u32 a2] w fun e w' => e = .returned (.bool true) ∧ Below w.heap.size w w' := by
  obtain ⟨l1, rfl⟩ : ∃ l, a0 = bs l := ⟨_, (bs_of a0).symm⟩
  obtain ⟨l2, rfl⟩ : ∃ l, a1 = bs l := ⟨_, (bs_of a1).symm⟩
  obtain ⟨c0, c1⟩ := wf_u32 w2
  clear w2
  rw [bs_size] at w0 w1
  have s1 := bs_size l1
  have s2 := bs_size l2
  by_cases hlong : 8192 < l1.length + l2.length
  · go_enter Try.func4, Try.ntmps4
    go_wp2_with fail
    refine (alive_any _).mono ?_
    rintro e w1 ⟨rfl, hB⟩
    go_wp2_with fail
    go_ret
    exact ⟨rfl, hB⟩
  · have ho := opened_sealed l1
    have hsl := sealed_length l1
    have hoc := opened_cases l2
    have hos := opened_short l2
    have hma := more_append a2.toNat l1 l2
    have hlt := more_lt l1 (c := a2.toNat) (by omega)
    have HO := Lib.hid ho
    have HSL := Lib.hid hsl
    have HMA := Lib.hid hma
    clear ho hsl hma
    obtain ⟨b, f, hbf⟩ : ∃ b f, opened l2 = (b, f) := ⟨_, _, rfl⟩
    rw [hbf] at hoc hos
    have HBF := Lib.hid hbf
    clear hbf
    dsimp only at hoc hos
    rcases hoc with ⟨rfl, hse⟩ | hf
    · have HSE := Lib.hid hse
      clear hse
      go_enter Try.func4, Try.ntmps4
      go_wp2_with fail
      refine (seal_any _ (by rw [bs_size]; unfold maxLen; omega) _).mono ?_
      rw [bs_data]
      rintro e x1 ⟨rfl, h1⟩
      go_wp2_with fail
      refine (open_any _ (by rw [HSL.out]; unfold maxLen; omega) _).mono ?_
      rw [HO.out]
      rintro e x2 ⟨rfl, h2⟩
      go_wp2_with fail
      refine (open_any _ (by unfold maxLen; omega) _).mono ?_
      rw [HBF.out]
      rintro e x3 ⟨rfl, h3⟩
      go_wp2_with fail
      refine (seal_any _ (by rw [bs_size]; unfold maxLen; omega) _).mono ?_
      rw [bs_data, HSE.out]
      rintro e x4 ⟨rfl, h4⟩
      have ha := bs_append l1 l2
      go_wp2_with fail
      refine (more_go _ c0 c1 _ (by rw [bs_size, List.length_append]; unfold maxLen; omega) _).mono ?_
      rw [bs_data, HMA.out]
      rintro e x5 ⟨rfl, h5⟩
      go_wp2_with fail
      refine (more_go _ c0 c1 _ (by rw [bs_size]; unfold maxLen; omega) _).mono ?_
      rw [bs_data]
      rintro e x6 ⟨rfl, h6⟩
      go_wp2_with fail
      refine (more_go _ (by omega) (by omega) _ (by rw [bs_size]; unfold maxLen; omega) _).mono ?_
      rw [bs_data, Int.toNat_natCast]
      rintro e x7 ⟨rfl, h7⟩
      go_wp2_with fail
      refine (alive_any _).mono ?_
      rintro e x8 ⟨rfl, h8⟩
      go_wp2_with fail
      go_ret
      have y2 := h1.trans (h2.mono h1.size)
      have y3 := y2.trans (h3.mono y2.size)
      have y4 := y3.trans (h4.mono y3.size)
      have y5 := y4.trans (h5.mono y4.size)
      have y6 := y5.trans (h6.mono y5.size)
      have y7 := y6.trans (h7.mono y6.size)
      exact ⟨rfl, y7.trans (h8.mono y7.size)⟩
    · have hf0 : (f != 0) = true := by rcases hf with rfl | rfl <;> rfl
      clear hf
      go_enter Try.func4, Try.ntmps4
      go_wp2_with fail
      refine (seal_any _ (by rw [bs_size]; unfold maxLen; omega) _).mono ?_
      rw [bs_data]
      rintro e x1 ⟨rfl, h1⟩
      go_wp2_with fail
      refine (open_any _ (by rw [HSL.out]; unfold maxLen; omega) _).mono ?_
      rw [HO.out]
      rintro e x2 ⟨rfl, h2⟩
      go_wp2_with fail
      refine (open_any _ (by unfold maxLen; omega) _).mono ?_
      rw [HBF.out]
      rintro e x3 ⟨rfl, h3⟩
      have ha := bs_append l1 l2
      go_wp2_with fail
      refine (more_go _ c0 c1 _ (by rw [bs_size, List.length_append]; unfold maxLen; omega) _).mono ?_
      rw [bs_data, HMA.out]
      rintro e x5 ⟨rfl, h5⟩
      go_wp2_with fail
      refine (more_go _ c0 c1 _ (by rw [bs_size]; unfold maxLen; omega) _).mono ?_
      rw [bs_data]
      rintro e x6 ⟨rfl, h6⟩
      go_wp2_with fail
      refine (more_go _ (by omega) (by omega) _ (by rw [bs_size]; unfold maxLen; omega) _).mono ?_
      rw [bs_data, Int.toNat_natCast]
      rintro e x7 ⟨rfl, h7⟩
      go_wp2_with fail
      refine (alive_any _).mono ?_
      rintro e x8 ⟨rfl, h8⟩
      go_wp2_with fail
      go_ret
      have y2 := h1.trans (h2.mono h1.size)
      have y3 := y2.trans (h3.mono y2.size)
      have y5 := y3.trans (h5.mono y3.size)
      have y6 := y5.trans (h6.mono y5.size)
      have y7 := y6.trans (h7.mono y6.size)
      exact ⟨rfl, y7.trans (h8.mono y7.size)⟩
end Go.Proofs.Ytgipenibjmijoaa
