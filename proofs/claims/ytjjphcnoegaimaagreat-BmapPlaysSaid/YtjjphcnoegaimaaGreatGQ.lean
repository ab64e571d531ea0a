/- Package tx: Patch of what was written. lunettelaw08.alive: the chapter's example. -/
import Derived.Test.YtjjphcnoegaimaaGreatGO
import Derived.Test.YtjjphcnoegaimaaGreatGP
namespace Go.Proofs.YtjjphcnoegaimaaGreat
open Go.RowKit Go.Shelf Go.Maps
set_option maxRecDepth 20000
set_option linter.unusedVariables false

section
variable {w0 w W W' : World} {X : Nat → Prop} {p jb N B fr n g r tb m : Nat} {s : DS} {M : Wl}
set_option maxHeartbeats 1000000 in
theorem patch1_yes {a b c : Nat} {f : Int} {old t : ByteArray} (h1 : W.cell? ⟨a, 0, none⟩ = some (.int .i64 f)) (h2 : W.cell? ⟨b, 0, none⟩ = some (.string old)) (h3 : W.cell? ⟨c, 0, none⟩ = some (.string t)) (hf : 0 ≤ f) (hf2 : f + (t.size : Int) ≤ (old.size : Int)) (ho : old.size < 1000000) :
    Calls Tryz.prog 71 #[.pointer (some ⟨a, 0, none⟩), .pointer (some ⟨b, 0, none⟩), .pointer (some ⟨c, 0, none⟩)] W fun e W' => e = .returned (.bool true) ∧ W = W' := by
  have e1 : decide (f ≥ 0) = true := decide_eq_true hf
  have e1' : decide (0 ≤ f) = true := decide_eq_true hf
  have e2 : decide (f ≤ (old.size : Int)) = true := decide_eq_true (by omega)
  have e3 : IntKind.i64.wrap ((old.size : Int) - f) = (old.size : Int) - f := i64_sm (by omega) (by omega)
  have e4 : decide ((t.size : Int) ≤ (old.size : Int) - f) = true := decide_eq_true (by omega)
  go_enter Tryz.func71, Tryz.ntmps71
  go_wp2_with fail
  go_ret
  exact ⟨rfl, rfl⟩

/-- What a sector is behind a patch. -/
def patched (old : ByteArray) (f : Nat) (t : ByteArray) : ByteArray := old.extract 0 f ++ t ++ old.extract (f + t.size) old.size
set_option maxHeartbeats 8000000 in
theorem tx_patch (h : TJ w0 X p jb N B fr n g r s tb m M false W) (hd : s.dead = false) (i : Nat) (hi : i < N) (f : Nat) (t : ByteArray) (old : ByteArray) (ho : pget i M = some old) (hos : old.size = 64) (hf : f + t.size ≤ 64) (hps : (patched old f t).size = 64) {mx : Nat} (hm : IsMost n mx) (hn : n ≤ 100000) :
    Calls Tryz.prog 41 #[.pointer (some ⟨tb, 0, none⟩), .int .i64 i, .int .i64 f, .string t] W fun e W' => e = .returned (.int .i64 0) ∧ TJ w0 X p jb N B fr n g r s tb m (pins i (patched old f t) M) false W' := by
  have HH := Lib.hid h
  have HM := Lib.hid hm
  have HPS := Lib.hid hps
  have HO := Lib.hid ho
  have hw : IntKind.i64.wrap ((f : Int) + (t.size : Int)) = (f : Int) + (t.size : Int) := i64_sm (by omega) (by omega)
  clear h hm hps ho
  go_enter Tryz.func41, Tryz.ntmps41
  go_wp2_with fail
  have hB1 : Below W.heap.size W ((W.alloc (.cells #[.int .i64 (f : Int)] 3)).alloc (.cells #[.string t] 9)) := bal (bnew _ _) _
  have b6 := hp_old ((W.alloc (.cells #[.int .i64 (f : Int)] 3))) (.cells #[.string t] 9) (k := W.heap.size) (by simp)
  rw [hp_new W _ rfl] at b6
  have b7 := hp_new ((W.alloc (.cells #[.int .i64 (f : Int)] 3))) (.cells #[.string t] 9) (k := W.heap.size + 1) (by simp)
  obtain ⟨W1, hW1⟩ : ∃ W1, (W.alloc (.cells #[.int .i64 (f : Int)] 3)).alloc (.cells #[.string t] 9) = W1 := ⟨_, rfl⟩
  rw [hW1] at hB1 b6 b7
  simp only [hW1]
  have h1 := HH.out.take hB1
  have HH1 := Lib.hid h1
  have HW1 : Hid (W1.heap.size = W.heap.size + 2) := Lib.hid (by rw [← hW1]; simp)
  clear h1 hW1
  refine (tx_open HH1.out.t).mono ?_
  rintro e w2 ⟨rfl, rfl⟩
  have hrd := tx_read HH1.out hd i hi
  rw [HO.out, Option.getD_some] at hrd
  have HRD := Lib.hid hrd
  clear hrd
  go_wp2_with fail
  refine HRD.out.mono ?_
  rintro e w2 ⟨rfl, hB2⟩
  have HB2 := Lib.hid hB2
  clear hB2
  go_wp2_with fail
  have HH2 := Lib.hid (HH1.out.of HB2.out)
  have hB3 := bnew w2 (.cells #[.string old] 9)
  have HB3 := Lib.hid hB3
  have b10 := hp_new w2 (.cells #[.string old] 9) rfl
  have h3 := HH2.out.take hB3
  obtain ⟨W3, hW3⟩ : ∃ W3, w2.alloc (.cells #[.string old] 9) = W3 := ⟨_, rfl⟩
  rw [hW3] at b10 h3
  have HH3 := Lib.hid h3
  have q6 := bblk HB3.out (bblk HB2.out b6)
  have q7 := bblk HB3.out (bblk HB2.out b7)
  rw [hW3] at q6 q7
  have c6 : W3.cell? ⟨W.heap.size, 0, none⟩ = some (.int .i64 (f : Int)) := cl_of q6 0
  have c7 : W3.cell? ⟨W.heap.size + 1, 0, none⟩ = some (.string t) := cl_of q7 0
  have c10 : W3.cell? ⟨w2.heap.size, 0, none⟩ = some (.string old) := cl_of b10 0
  have HWS : Hid (W.heap.size + 2 ≤ w2.heap.size ∧ w2.heap.size < W3.heap.size) := Lib.hid ⟨by rw [← HW1.out]; exact HB2.out.size, blk_lt b10⟩
  clear h3 b6 b7 q6 q7 b10 hB1 hB3
  simp only [hW3]
  clear hW3
  refine (patch1_yes c6 c10 c7 (by omega) (by omega) (by omega)).mono ?_
  rintro e w4 ⟨rfl, rfl⟩
  have hwr := tx_write (HH3.out.drewn 1) i hi (patched old f t) HPS.out HM.out hn
  have HWR : Hid (Calls Tryz.prog 15 #[.pointer (some ⟨tb, 0, none⟩), .int .i64 i, .string (patched old f t)] W3.drew fun e W' => e = .returned (.int .i64 0) ∧ W'.cell? ⟨W.heap.size, 0, none⟩ = some (.int .i64 (f : Int)) ∧ W'.cell? ⟨W.heap.size + 1, 0, none⟩ = some (.string t) ∧ W'.cell? ⟨w2.heap.size, 0, none⟩ = some (.string old) ∧ Hid (TJ w0 X p jb N B fr n g r s tb m (pins i (patched old f t) M) false W')) := Lib.hid (hwr.mono (by
    rintro e W' (⟨-, rfl, a, b⟩ | ⟨⟨hno, -⟩, -⟩)
    · have hm1 := HH.out.t.mlt
      have hk : ∀ k, (k = W.heap.size ∨ k = W.heap.size + 1 ∨ k = w2.heap.size) → W'.heap[k]? = W3.heap[k]? := fun k hk => b k (.inr ⟨by
        rcases hk with rfl | rfl | rfl
        · exact .inl (.inr ⟨Nat.le_refl _, by have := HW1.out; omega⟩)
        · exact .inl (.inr ⟨by omega, by have := HW1.out; omega⟩)
        · exact .inr ⟨Nat.le_refl _, HWS.out.2⟩, by have := HWS.out; rcases hk with rfl | rfl | rfl <;> omega⟩)
      have := HWS.out
      have := HW1.out
      refine ⟨rfl, (World.cell?_of_block (hk _ (.inl rfl))).trans c6, (World.cell?_of_block (hk _ (.inr (.inl rfl)))).trans c7, (World.cell?_of_block (hk _ (.inr (.inr rfl)))).trans c10, Lib.hid (a.less (fun _ h => .inl (.inl h)) HH.out.j.own HH.out.xt HH.out.xm)⟩
    · rw [HO.out] at hno
      cases hno))
  clear hwr
  unfold patched at HWR
  have HOS := Lib.hid hos
  have hb1 : (0 : Int) ≤ (f : Int) := by omega
  have hb2 : (f : Int) ≤ (old.size : Int) := by omega
  have hb2' : f ≤ old.size := by omega
  have hb3 : (0 : Int) ≤ (f : Int) + (t.size : Int) := by omega
  have hb4 : (f : Int) + (t.size : Int) ≤ (old.size : Int) := by omega
  have hb5 : ((f : Int) + (t.size : Int)).toNat = f + t.size := by omega
  obtain ⟨x, hx⟩ : ∃ x, old.extract 0 f = x := ⟨_, rfl⟩
  obtain ⟨y, hy⟩ : ∃ y, old.extract (f + t.size) old.size = y := ⟨_, rfl⟩
  obtain ⟨z, hz⟩ : ∃ z, x ++ t = z := ⟨_, rfl⟩
  have hxs : x.size ≤ 64 := by rw [← hx, ByteArray.size_extract]; omega
  have hys : y.size ≤ 64 := by rw [← hy, ByteArray.size_extract]; omega
  have hts : t.size ≤ 64 := by omega
  have hzs : z.size ≤ 128 := by rw [← hz, ByteArray.size_append]; omega
  have s1 : ¬ (9223372036854775807 < x.size + t.size) := by omega
  have s2 : ¬ (9223372036854775807 < z.size + y.size) := by omega
  have HE : Hid (old.extract 0 f ++ t ++ old.extract (f + t.size) old.size = z ++ y) := Lib.hid (by rw [hx, hz, hy])
  rw [HE.out] at HWR
  clear hos hf
  go_wp2_with fail
  refine wp_region_tail 14 (by kernel_rfl) (by kernel_rfl) (fun W4 HW4 => ?_)
  have d6 : W4.cell? ⟨W.heap.size, 0, none⟩ = some (.int .i64 (f : Int)) := by rw [HW4.out]; exact c6
  have d7 : W4.cell? ⟨W.heap.size + 1, 0, none⟩ = some (.string t) := by rw [HW4.out]; exact c7
  have d10 : W4.cell? ⟨w2.heap.size, 0, none⟩ = some (.string old) := by rw [HW4.out]; exact c10
  rw [← HW4.out] at HWR
  clear c6 c7 c10
  simp only [List.take_succ_cons, List.take_zero, List.drop_succ_cons, List.drop_zero]
  repeat still_step
  refine wpStill_nil ?_
  go_wp2_with fail
  refine HWR.out.mono ?_
  rintro e w5 ⟨rfl, -, -, -, hp⟩
  go_wp2_with fail
  go_ret
  refine ⟨rfl, ?_⟩
  have := hp.out
  rw [← HE.out] at this
  exact this
end
end Go.Proofs.YtjjphcnoegaimaaGreat

namespace Go.Proofs.YtjjphcnoegaimaaGreat
open Go.RowKit Go.Shelf Go.Maps
set_option maxRecDepth 20000
set_option linter.unusedVariables false

def fx : ByteArray := fullB ⟨#[120]⟩
def ab : ByteArray := ⟨#[97, 98]⟩
theorem fx_ab : (patched fx 2 ab).size = 64 ∧ (patched fx 2 ab).extract 0 5 = ⟨#[120, 120, 97, 98, 120]⟩ := by
  constructor <;> kernel_rfl
theorem full_empty : fullB ByteArray.empty = zsec := by kernel_rfl
section
variable {w0 w W W' : World} {X : Nat → Prop} {p jb N B fr n g r tb m : Nat} {s : DS} {M : Wl}
set_option maxHeartbeats 8000000 in
theorem alive08_any (w : World) : Calls Tryz.prog 9 #[] w fun e w' => e = .returned (.bool true) ∧ Below w.heap.size w w' := by
  have hmade := made_any (w0 := w) (W := w) 32 (by decide) (by decide) (Below.refl _ _)
  have HMD := Lib.hid hmade
  clear hmade
  have hfx := fun w => full_any ⟨#[120]⟩ (by unfold maxLen; decide) w
  have hfe := fun w => full_any ByteArray.empty (by unfold maxLen; decide) w
  rw [full_empty] at hfe
  obtain ⟨a, ha⟩ : ∃ a, fullB ⟨#[120]⟩ = a := ⟨_, rfl⟩
  have hsa : a.size = 64 := by rw [← ha]; exact fullB_size _
  rw [ha] at hfx
  have hpa : Hid ((patched a 2 ab).size = 64 ∧ (patched a 2 ab).extract 0 5 = ⟨#[120, 120, 97, 98, 120]⟩) := Lib.hid (by rw [← ha]; exact fx_ab)
  have HFX := Lib.hid hfx
  have HFE := Lib.hid hfe
  have HSA := Lib.hid hsa
  clear hfx hfe hsa ha
  go_enter Tryz.func9, Tryz.ntmps9
  go_wp2_with fail
  refine HMD.out.mono ?_
  rintro e w1 ⟨p, jb, rfl, h1⟩
  have HJ1 := Lib.hid h1.j
  clear h1
  go_wp2_with fail
  refine (HJ1.out.begin).mono ?_
  rintro e w2 ⟨rfl, h2, hB2⟩
  have HT2 := Lib.hid h2
  clear h2 hB2
  go_wp2_with fail
  refine (tx_begin_nil _ _).mono ?_
  rintro e w3 ⟨rfl, rfl⟩
  go_wp2_with fail
  refine (HFX.out _).mono ?_
  rintro e w3 ⟨rfl, hB3⟩
  have hwr := tx_write (HT2.out.of hB3) 20 (by decide) a HSA.out most_12 (by decide)
  have HWR := Lib.hid hwr
  clear hB3 hwr
  go_wp2_with fail
  refine HWR.out.mono ?_
  rintro e w4 (⟨-, rfl, h4, -⟩ | ⟨⟨-, hno⟩, -⟩)
  rotate_left
  · exact absurd hno (by decide)
  have HT4 := Lib.hid h4
  clear h4
  have hrd := tx_read HT4.out rfl 20 (by decide)
  have hpg : pget ((20 : Nat) : Int) (pins ((20 : Nat) : Int) a []) = some a := by rw [pins_get, if_pos rfl]
  rw [hpg] at hrd
  have HRD := Lib.hid hrd
  clear hrd
  go_wp2_with fail
  refine HRD.out.mono ?_
  rintro e w5 ⟨rfl, hB5⟩
  have HT5 := Lib.hid (HT4.out.of hB5)
  clear hB5
  have hrd := js_readb HT5.out.j rfl 20 (by decide)
  rw [show newest (newS 32) 20 = zsec from (newS_JL 32 4).newest (by decide)] at hrd
  have HRD2 := Lib.hid hrd
  clear hrd
  go_wp2_with fail
  refine HRD2.out.mono ?_
  rintro e w6 ⟨rfl, hB6⟩
  have HT6 := Lib.hid (HT5.out.of hB6)
  clear hB6
  have hpt := tx_patch HT6.out rfl 20 (by decide) 2 ab a hpg HSA.out (by decide) hpa.out.1 most_12 (by decide)
  have HPT := Lib.hid hpt
  clear hpt hpg
  unfold ab at HPT
  go_wp2_with fail
  refine HPT.out.mono ?_
  rintro e w7 ⟨rfl, h7⟩
  have e7 : pins ((20 : Nat) : Int) (patched a 2 ⟨#[97, 98]⟩) (pins ((20 : Nat) : Int) a []) = zP [(20, patched a 2 ab)] := by simp [pins, zP, ab]
  rw [e7] at h7
  have mp : MayP 32 4 12 [(20, patched a 2 ab)] := ⟨by decide, by decide, by show 1 + places 1 + 1 ≤ 12; decide, by
    intro x hx
    rw [List.mem_singleton] at hx
    subst hx
    exact ⟨by show 20 < 32; decide, .inr (by show 4 + 12 ≤ 20; decide), hpa.out.1⟩⟩
  have hwc := mp.wc (by decide) (0 + 1)
  obtain ⟨hok, h', j1, j2⟩ := commit_free mp (newS_JL 32 4) (by decide)
  have hcm := tx_commit [(20, patched a 2 ab)] h7 most_12 mp (by decide) (by omega)
  have HCM := Lib.hid hcm
  have HJ1' := Lib.hid j1
  have HJ2 := Lib.hid j2
  clear hcm hwc j1 j2 mp h7 e7
  go_wp2_with fail
  refine HCM.out.mono ?_
  rintro e w8 (⟨h0, -⟩ | ⟨-, -, rfl, h8, -⟩ | ⟨-, hno, -⟩)
  · cases h0
  rotate_left
  · rw [hok] at hno; cases hno
  have hrd := js_readb h8.j HJ1'.out.dead 20 (by decide)
  rw [HJ1'.out.newest (by decide), HJ2.out 20 ⟨by decide, .inr (by decide)⟩] at hrd
  have hl : laid (fun _ => zsec) [(20, patched a 2 ab)] 20 = patched a 2 ab := rfl
  rw [hl] at hrd
  have HRD3 := Lib.hid hrd
  have HT8 := Lib.hid h8
  have hb64 : ((patched a 2 ab).size : Int) = 64 := by rw [hpa.out.1]; rfl
  have hb5 : (patched a 2 ab).extract 0 5 = ⟨#[120, 120, 97, 98, 120]⟩ := hpa.out.2
  obtain ⟨b, hb⟩ : ∃ b, patched a 2 ab = b := ⟨_, rfl⟩
  rw [hb] at HRD3 hb64 hb5
  clear hrd h8 hl hok hb
  go_wp2_with fail
  refine HRD3.out.mono ?_
  rintro e w9 ⟨rfl, hB9⟩
  have HT9 := Lib.hid (HT8.out.of hB9)
  clear hB9
  go_wp2_with fail
  refine (tx_read_done HT9.out.t 20).mono ?_
  rintro e w10 ⟨rfl, rfl⟩
  have ea : (a.toList == a.toList) = true := by simp
  have ez : (zsec.toList == zsec.toList) = true := by simp
  go_wp2_with fail
  refine (HFX.out _).mono ?_
  rintro e w10 ⟨rfl, hB10⟩
  have HT10 := Lib.hid (HT9.out.of hB10)
  clear hB10
  go_wp2_with fail
  refine (HFE.out _).mono ?_
  rintro e w11 ⟨rfl, hB11⟩
  have HT11 := Lib.hid (HT10.out.of hB11)
  clear hB11
  go_wp2_with fail
  go_ret
  exact ⟨rfl, HT11.out.j.dev.below⟩
end
end Go.Proofs.YtjjphcnoegaimaaGreat
