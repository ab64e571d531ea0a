/- lunettelaw04.alive: the chapter's examples. -/
import Derived.Test.YtjjphcnoegaimaaJState
import Derived.Test.YtjjphcnoegaimaaLaw03
namespace Go.Proofs.Ytjjphcnoegaimaa
open Go.RowKit Go.Shelf Go.Maps
set_option maxRecDepth 20000
set_option linter.unusedVariables false

theorem most_8 : IsMost 8 6 := by unfold IsMost places; decide
theorem most_40 : IsMost 40 37 := by unfold IsMost places; decide
theorem sec_size' (s : ByteArray) : (sec s).size = 64 := sec_size s
set_option maxHeartbeats 8000000 in
theorem alive04_any (w : World) : Calls Try.prog 29 #[] w fun e w' => e = .returned (.bool true) ∧ Below w.heap.size w w' := by
  obtain ⟨a, ha⟩ : ∃ a, sec ⟨#[97]⟩ = a := ⟨_, rfl⟩
  have sa : a.size = 64 := by rw [← ha]; exact sec_size _
  have ca := sector_any ⟨#[97]⟩
  rw [ha] at ca
  have CA := Lib.hid ca
  have mp : MayP 32 2 8 [(20, a)] := ⟨by decide, by decide, by show 1 + places 1 + 1 ≤ 8; decide, by
    intro x hx
    rw [List.mem_singleton] at hx
    subst hx
    exact ⟨by show 20 < 32; decide, .inr (by show 2 + 8 ≤ 20; decide), sa⟩⟩
  have hbad : whyZ 32 2 8 6 [((9 : Int), a)] = 40 := by
    have h1 : ¬ ∃ x ∈ [((9 : Int), a)], badZ 32 x := by
      rintro ⟨x, hx, hb⟩
      rw [List.mem_singleton] at hx
      subst hx
      unfold badZ at hb
      dsimp only at hb
      omega
    have h2 : ∃ x ∈ [((9 : Int), a)], inZ 2 8 x := ⟨_, List.mem_singleton.2 rfl, by show (2 : Int) ≤ 9 ∧ (9 : Int) < 2 + 8; decide⟩
    rw [whyZ, if_neg h1, if_pos h2]
  have HMP := Lib.hid mp
  have HBD := Lib.hid hbad
  clear ha ca mp hbad
  go_enter Try.func29, Try.ntmps29
  go_wp2_with fail
  refine (o_new 32 (by decide) (by decide) w w (Below.refl _ _)).mono ?_
  rintro e w1 ⟨rfl, h0, -⟩
  replace h0 := h0.less (Y := fun _ => False) (fun _ => False.elim)
  go_wp2_with fail
  refine (open_JL (fr := 2) (n := 8) h0 (newS_ok 32) (newS_JL 32 2) (by decide) (by decide) (by decide) (by decide) most_8).mono ?_
  rintro e w2 ⟨rfl, h1, -⟩
  clear h0
  go_wp2_with fail
  refine (open_nil 2 8 w2).mono ?_
  rintro e w3 ⟨rfl, rfl⟩
  go_wp2_with fail
  refine (CA.out w2).mono ?_
  rintro e w3 ⟨rfl, hB⟩
  have h2 := (h1.of hB).take (bnew w3 (.cells #[.int .i64 20, .string a] 76))
  have hsl : SlP w (fun k => (False ∨ k = w1.heap.size) ∨ w3.heap.size ≤ k ∧ k < (w3.alloc (.cells #[.int .i64 20, .string a] 76)).heap.size) (w3.alloc (.cells #[.int .i64 20, .string a] 76)) (.slice (some ⟨w3.heap.size, 0, none⟩) 1 1) (zP [(20, a)]) := by
    refine ⟨_, _, rfl, fun _ => ⟨w3.heap.size, 0, rfl, .inr (.inr ⟨Nat.le_refl _, by simp⟩), fun i hi => ?_⟩⟩
    obtain rfl : i = 0 := by simpa [zP] using hi
    exact ⟨cl_of (hp_new w3 _ rfl) 0, cl_of (hp_new w3 _ rfl) 1⟩
  have hcm := commit_JL [(20, a)] h2 (newS_JL 32 2) hsl most_8 HMP.out (by decide) (by decide) (by decide)
  have HCM := Lib.hid hcm
  clear h1 h2 hB hsl hcm
  go_wp2_with fail
  refine HCM.out.mono ?_
  rintro e w4 ⟨s4, f4, rfl, h4, j4, o4, -⟩
  have h20 : newest s4 20 = a := by
    rw [j4.newest (by decide), o4 20 ⟨by decide, .inr (by decide)⟩]
    rfl
  have HJ4 := Lib.hid j4
  have H20 := Lib.hid h20
  have h4' := h4.less (Y := fun k => k = w1.heap.size) (fun k hk => .inl (.inr hk)) rfl
  have H4 := Lib.hid h4'
  clear j4 h20 o4 h4 h4'
  go_wp2_with fail
  refine (CA.out w4).mono ?_
  rintro e w5 ⟨rfl, hB⟩
  have h5 := (H4.out.of hB).take (bnew w5 (.cells #[.int .i64 9, .string a] 76))
  have hsl : SlP w (fun k => k = w1.heap.size ∨ w5.heap.size ≤ k ∧ k < (w5.alloc (.cells #[.int .i64 9, .string a] 76)).heap.size) (w5.alloc (.cells #[.int .i64 9, .string a] 76)) (.slice (some ⟨w5.heap.size, 0, none⟩) 1 1) [((9 : Int), a)] := by
    refine ⟨_, _, rfl, fun _ => ⟨w5.heap.size, 0, rfl, .inr (.inr ⟨Nat.le_refl _, by simp⟩), fun i hi => ?_⟩⟩
    obtain rfl : i = 0 := by simpa using hi
    exact ⟨cl_of (hp_new w5 _ rfl) 0, cl_of (hp_new w5 _ rfl) 1⟩
  have hcm := commit_no [((9 : Int), a)] h5 hsl most_8 (by decide) (by decide) (by simp) (by
    intro x hx
    rw [List.mem_singleton] at hx
    subst hx
    show a.size ≤ maxLen
    unfold maxLen
    omega) 40 HBD.out (by decide)
  have HCM2 := Lib.hid hcm
  have H5 := Lib.hid h5
  clear hB hsl hcm h5
  go_wp2_with fail
  refine HCM2.out.mono ?_
  rintro e w6 ⟨rfl, hB6⟩
  have h6 := (H5.out.of hB6).less (Y := fun k => k = w1.heap.size) (fun k hk => .inl hk) rfl
  clear hB6
  go_wp2_with fail
  refine (js_crash h6 (by decide) ⟨#[1, 1, 1]⟩).mono ?_
  rintro e w7 ⟨rfl, h7, -⟩
  have H20c : Hid (newest (crashS ⟨#[1, 1, 1]⟩ s4) 20 = a) := Lib.hid (by
    have h1 := HJ4.out.newest (i := 20) (by decide)
    rw [H20.out] at h1
    rw [(HJ4.out.crash _).newest (by decide), ← h1])
  clear h6
  go_wp2_with fail
  refine (js_readb h7 (HJ4.out.crash _).dead 20 (by decide)).mono ?_
  rw [H20c.out]
  rintro e w8 ⟨rfl, hB8⟩
  have h8 := Lib.hid (h7.of hB8)
  clear h7 hB8
  go_wp2_with fail
  refine (jmax_any h8.out most_8 (by decide)).mono ?_
  rintro e w9 ⟨rfl, rfl⟩
  go_wp2_with fail
  refine (CA.out w8).mono ?_
  rintro e w9 ⟨rfl, hB9⟩
  have h9 := Lib.hid (h8.out.of hB9)
  clear hB9
  go_wp2_with fail
  refine (jgen_any h9.out).mono ?_
  rintro e w10 ⟨rfl, rfl⟩
  go_wp2_with fail
  go_ret
  exact ⟨rfl, h9.out.dev.below⟩
end Go.Proofs.Ytjjphcnoegaimaa
