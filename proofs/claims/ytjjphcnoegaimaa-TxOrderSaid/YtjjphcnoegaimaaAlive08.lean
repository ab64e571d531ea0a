/- lunettelaw08.alive: the chapter's example. -/
import Derived.Test.YtjjphcnoegaimaaLaw08
import Derived.Test.YtjjphcnoegaimaaPatch
namespace Go.Proofs.Ytjjphcnoegaimaa
open Go.RowKit Go.Shelf Go.Maps
set_option maxRecDepth 20000
set_option linter.unusedVariables false

def fx : ByteArray := fullB ⟨#[120]⟩
def ab : ByteArray := ⟨#[97, 98]⟩
theorem fx_ab : (patched fx 2 ab).size = 64 ∧ (patched fx 2 ab).extract 0 5 = ⟨#[120, 120, 97, 98, 120]⟩ := by
  constructor <;> kernel_rfl
theorem full_empty : fullB ByteArray.empty = zsec := by kernel_rfl
section
variable {w0 w W W' : World} {X : Nat → Prop} {p jb N B fr n g r tb m : Nat} {s : DS} {M : Wl}
set_option maxHeartbeats 8000000 in
theorem alive08_any (w : World) : Calls Try.prog 47 #[] w fun e w' => e = .returned (.bool true) ∧ Below w.heap.size w w' := by
  have hmade := made_any (w0 := w) (W := w) 32 (by decide) (by decide) (Below.refl _ _)
  have HMD := Lib.hid hmade
  clear hmade
  have hfx := fun w => full_any ⟨#[120]⟩ (by unfold maxLen; decide) w
  have hfe := fun w => full_any ByteArray.empty (by unfold maxLen; decide) w
  rw [full_empty] at hfe
  obtain ⟨a, ha⟩ : ∃ a, fullB ⟨#[120]⟩ = a := ⟨_, rfl⟩
  have hsa : a.size = 64 := by rw [← ha]; exact fullB_size _
  rw [ha] at hfx
  have hpa : Hid ((patched a 2 ab).size = 64 ∧ (patched a 2 ab).extract 0 5 = ⟨#[120, 120, 97, 98, 120]⟩) := Lib.hid (by rw [← ha]; exact fx_ab)
  have HFX := Lib.hid hfx
  have HFE := Lib.hid hfe
  have HSA := Lib.hid hsa
  clear hfx hfe hsa ha
  go_enter Try.func47, Try.ntmps47
  go_wp2_with fail
  refine HMD.out.mono ?_
  rintro e w1 ⟨p, jb, rfl, h1⟩
  have HJ1 := Lib.hid h1.j
  clear h1
  go_wp2_with fail
  refine (HJ1.out.begin).mono ?_
  rintro e w2 ⟨rfl, h2, hB2⟩
  have HT2 := Lib.hid h2
  clear h2 hB2
  go_wp2_with fail
  refine (tx_begin_nil _ _).mono ?_
  rintro e w3 ⟨rfl, rfl⟩
  go_wp2_with fail
  refine (HFX.out _).mono ?_
  rintro e w3 ⟨rfl, hB3⟩
  have hwr := tx_write (HT2.out.of hB3) 20 (by decide) a HSA.out most_12 (by decide)
  have HWR := Lib.hid hwr
  clear hB3 hwr
  go_wp2_with fail
  refine HWR.out.mono ?_
  rintro e w4 (⟨-, rfl, h4, -⟩ | ⟨⟨-, hno⟩, -⟩)
  rotate_left
  · exact absurd hno (by decide)
  have HT4 := Lib.hid h4
  clear h4
  have hrd := tx_read HT4.out rfl 20 (by decide)
  have hpg : pget ((20 : Nat) : Int) (pins ((20 : Nat) : Int) a []) = some a := by rw [pins_get, if_pos rfl]
  rw [hpg] at hrd
  have HRD := Lib.hid hrd
  clear hrd
  go_wp2_with fail
  refine HRD.out.mono ?_
  rintro e w5 ⟨rfl, hB5⟩
  have HT5 := Lib.hid (HT4.out.of hB5)
  clear hB5
  have hrd := js_readb HT5.out.j rfl 20 (by decide)
  rw [show newest (newS 32) 20 = zsec from (newS_JL 32 4).newest (by decide)] at hrd
  have HRD2 := Lib.hid hrd
  clear hrd
  go_wp2_with fail
  refine HRD2.out.mono ?_
  rintro e w6 ⟨rfl, hB6⟩
  have HT6 := Lib.hid (HT5.out.of hB6)
  clear hB6
  have hpt := tx_patch HT6.out rfl 20 (by decide) 2 ab a hpg HSA.out (by decide) hpa.out.1 most_12 (by decide)
  have HPT := Lib.hid hpt
  clear hpt hpg
  unfold ab at HPT
  go_wp2_with fail
  refine HPT.out.mono ?_
  rintro e w7 ⟨rfl, h7⟩
  have e7 : pins ((20 : Nat) : Int) (patched a 2 ⟨#[97, 98]⟩) (pins ((20 : Nat) : Int) a []) = zP [(20, patched a 2 ab)] := by simp [pins, zP, ab]
  rw [e7] at h7
  have mp : MayP 32 4 12 [(20, patched a 2 ab)] := ⟨by decide, by decide, by show 1 + places 1 + 1 ≤ 12; decide, by
    intro x hx
    rw [List.mem_singleton] at hx
    subst hx
    exact ⟨by show 20 < 32; decide, .inr (by show 4 + 12 ≤ 20; decide), hpa.out.1⟩⟩
  have hwc := mp.wc (by decide) (0 + 1)
  obtain ⟨hok, h', j1, j2⟩ := commit_free mp (newS_JL 32 4) (by decide)
  have hcm := tx_commit [(20, patched a 2 ab)] h7 most_12 mp (by decide) (by omega)
  have HCM := Lib.hid hcm
  have HJ1' := Lib.hid j1
  have HJ2 := Lib.hid j2
  clear hcm hwc j1 j2 mp h7 e7
  go_wp2_with fail
  refine HCM.out.mono ?_
  rintro e w8 (⟨h0, -⟩ | ⟨-, -, rfl, h8, -⟩ | ⟨-, hno, -⟩)
  · cases h0
  rotate_left
  · rw [hok] at hno; cases hno
  have hrd := js_readb h8.j HJ1'.out.dead 20 (by decide)
  rw [HJ1'.out.newest (by decide), HJ2.out 20 ⟨by decide, .inr (by decide)⟩] at hrd
  have hl : laid (fun _ => zsec) [(20, patched a 2 ab)] 20 = patched a 2 ab := rfl
  rw [hl] at hrd
  have HRD3 := Lib.hid hrd
  have HT8 := Lib.hid h8
  have hb64 : ((patched a 2 ab).size : Int) = 64 := by rw [hpa.out.1]; rfl
  have hb5 : (patched a 2 ab).extract 0 5 = ⟨#[120, 120, 97, 98, 120]⟩ := hpa.out.2
  obtain ⟨b, hb⟩ : ∃ b, patched a 2 ab = b := ⟨_, rfl⟩
  rw [hb] at HRD3 hb64 hb5
  clear hrd h8 hl hok hb
  go_wp2_with fail
  refine HRD3.out.mono ?_
  rintro e w9 ⟨rfl, hB9⟩
  have HT9 := Lib.hid (HT8.out.of hB9)
  clear hB9
  go_wp2_with fail
  refine (tx_read_done HT9.out.t 20).mono ?_
  rintro e w10 ⟨rfl, rfl⟩
  have ea : (a.toList == a.toList) = true := by simp
  have ez : (zsec.toList == zsec.toList) = true := by simp
  go_wp2_with fail
  refine (HFX.out _).mono ?_
  rintro e w10 ⟨rfl, hB10⟩
  have HT10 := Lib.hid (HT9.out.of hB10)
  clear hB10
  go_wp2_with fail
  refine (HFE.out _).mono ?_
  rintro e w11 ⟨rfl, hB11⟩
  have HT11 := Lib.hid (HT10.out.of hB11)
  clear hB11
  go_wp2_with fail
  go_ret
  exact ⟨rfl, HT11.out.j.dev.below⟩
end
end Go.Proofs.Ytjjphcnoegaimaa
