/- Package tx: Patch of what was written. -/
import Derived.Test.YtjjphcnoegaimaaTxCommit
namespace Go.Proofs.Ytjjphcnoegaimaa
open Go.RowKit Go.Shelf Go.Maps
set_option maxRecDepth 20000
set_option linter.unusedVariables false

section
variable {w0 w W W' : World} {X : Nat → Prop} {p jb N B fr n g r tb m : Nat} {s : DS} {M : Wl}
set_option maxHeartbeats 1000000 in
theorem patch1_yes {a b c : Nat} {f : Int} {old t : ByteArray} (h1 : W.cell? ⟨a, 0, none⟩ = some (.int .i64 f)) (h2 : W.cell? ⟨b, 0, none⟩ = some (.string old)) (h3 : W.cell? ⟨c, 0, none⟩ = some (.string t)) (hf : 0 ≤ f) (hf2 : f + (t.size : Int) ≤ (old.size : Int)) (ho : old.size < 1000000) :
    Calls Try.prog 97 #[.pointer (some ⟨a, 0, none⟩), .pointer (some ⟨b, 0, none⟩), .pointer (some ⟨c, 0, none⟩)] W fun e W' => e = .returned (.bool true) ∧ W = W' := by
  have e1 : decide (f ≥ 0) = true := decide_eq_true hf
  have e1' : decide (0 ≤ f) = true := decide_eq_true hf
  have e2 : decide (f ≤ (old.size : Int)) = true := decide_eq_true (by omega)
  have e3 : IntKind.i64.wrap ((old.size : Int) - f) = (old.size : Int) - f := i64_sm (by omega) (by omega)
  have e4 : decide ((t.size : Int) ≤ (old.size : Int) - f) = true := decide_eq_true (by omega)
  go_enter Try.func97, Try.ntmps97
  go_wp2_with fail
  go_ret
  exact ⟨rfl, rfl⟩

/-- What a sector is behind a patch. -/
def patched (old : ByteArray) (f : Nat) (t : ByteArray) : ByteArray := old.extract 0 f ++ t ++ old.extract (f + t.size) old.size
set_option maxHeartbeats 8000000 in
theorem tx_patch (h : TJ w0 X p jb N B fr n g r s tb m M false W) (hd : s.dead = false) (i : Nat) (hi : i < N) (f : Nat) (t : ByteArray) (old : ByteArray) (ho : pget i M = some old) (hos : old.size = 64) (hf : f + t.size ≤ 64) (hps : (patched old f t).size = 64) {mx : Nat} (hm : IsMost n mx) (hn : n ≤ 100000) :
    Calls Try.prog 77 #[.pointer (some ⟨tb, 0, none⟩), .int .i64 i, .int .i64 f, .string t] W fun e W' => e = .returned (.int .i64 0) ∧ TJ w0 X p jb N B fr n g r s tb m (pins i (patched old f t) M) false W' := by
  have HH := Lib.hid h
  have HM := Lib.hid hm
  have HPS := Lib.hid hps
  have HO := Lib.hid ho
  have hw : IntKind.i64.wrap ((f : Int) + (t.size : Int)) = (f : Int) + (t.size : Int) := i64_sm (by omega) (by omega)
  clear h hm hps ho
  go_enter Try.func77, Try.ntmps77
  go_wp2_with fail
  have hB1 : Below W.heap.size W ((W.alloc (.cells #[.int .i64 (f : Int)] 3)).alloc (.cells #[.string t] 9)) := bal (bnew _ _) _
  have b6 := hp_old ((W.alloc (.cells #[.int .i64 (f : Int)] 3))) (.cells #[.string t] 9) (k := W.heap.size) (by simp)
  rw [hp_new W _ rfl] at b6
  have b7 := hp_new ((W.alloc (.cells #[.int .i64 (f : Int)] 3))) (.cells #[.string t] 9) (k := W.heap.size + 1) (by simp)
  obtain ⟨W1, hW1⟩ : ∃ W1, (W.alloc (.cells #[.int .i64 (f : Int)] 3)).alloc (.cells #[.string t] 9) = W1 := ⟨_, rfl⟩
  rw [hW1] at hB1 b6 b7
  simp only [hW1]
  have h1 := HH.out.take hB1
  have HH1 := Lib.hid h1
  have HW1 : Hid (W1.heap.size = W.heap.size + 2) := Lib.hid (by rw [← hW1]; simp)
  clear h1 hW1
  refine (tx_open HH1.out.t).mono ?_
  rintro e w2 ⟨rfl, rfl⟩
  have hrd := tx_read HH1.out hd i hi
  rw [HO.out, Option.getD_some] at hrd
  have HRD := Lib.hid hrd
  clear hrd
  go_wp2_with fail
  refine HRD.out.mono ?_
  rintro e w2 ⟨rfl, hB2⟩
  have HB2 := Lib.hid hB2
  clear hB2
  go_wp2_with fail
  have HH2 := Lib.hid (HH1.out.of HB2.out)
  have hB3 := bnew w2 (.cells #[.string old] 9)
  have HB3 := Lib.hid hB3
  have b10 := hp_new w2 (.cells #[.string old] 9) rfl
  have h3 := HH2.out.take hB3
  obtain ⟨W3, hW3⟩ : ∃ W3, w2.alloc (.cells #[.string old] 9) = W3 := ⟨_, rfl⟩
  rw [hW3] at b10 h3
  have HH3 := Lib.hid h3
  have q6 := bblk HB3.out (bblk HB2.out b6)
  have q7 := bblk HB3.out (bblk HB2.out b7)
  rw [hW3] at q6 q7
  have c6 : W3.cell? ⟨W.heap.size, 0, none⟩ = some (.int .i64 (f : Int)) := cl_of q6 0
  have c7 : W3.cell? ⟨W.heap.size + 1, 0, none⟩ = some (.string t) := cl_of q7 0
  have c10 : W3.cell? ⟨w2.heap.size, 0, none⟩ = some (.string old) := cl_of b10 0
  have HWS : Hid (W.heap.size + 2 ≤ w2.heap.size ∧ w2.heap.size < W3.heap.size) := Lib.hid ⟨by rw [← HW1.out]; exact HB2.out.size, blk_lt b10⟩
  clear h3 b6 b7 q6 q7 b10 hB1 hB3
  simp only [hW3]
  clear hW3
  refine (patch1_yes c6 c10 c7 (by omega) (by omega) (by omega)).mono ?_
  rintro e w4 ⟨rfl, rfl⟩
  have hwr := tx_write (HH3.out.drewn 1) i hi (patched old f t) HPS.out HM.out hn
  have HWR : Hid (Calls Try.prog 51 #[.pointer (some ⟨tb, 0, none⟩), .int .i64 i, .string (patched old f t)] W3.drew fun e W' => e = .returned (.int .i64 0) ∧ W'.cell? ⟨W.heap.size, 0, none⟩ = some (.int .i64 (f : Int)) ∧ W'.cell? ⟨W.heap.size + 1, 0, none⟩ = some (.string t) ∧ W'.cell? ⟨w2.heap.size, 0, none⟩ = some (.string old) ∧ Hid (TJ w0 X p jb N B fr n g r s tb m (pins i (patched old f t) M) false W')) := Lib.hid (hwr.mono (by
    rintro e W' (⟨-, rfl, a, b⟩ | ⟨⟨hno, -⟩, -⟩)
    · have hm1 := HH.out.t.mlt
      have hk : ∀ k, (k = W.heap.size ∨ k = W.heap.size + 1 ∨ k = w2.heap.size) → W'.heap[k]? = W3.heap[k]? := fun k hk => b k (.inr ⟨by
        rcases hk with rfl | rfl | rfl
        · exact .inl (.inr ⟨Nat.le_refl _, by have := HW1.out; omega⟩)
        · exact .inl (.inr ⟨by omega, by have := HW1.out; omega⟩)
        · exact .inr ⟨Nat.le_refl _, HWS.out.2⟩, by have := HWS.out; rcases hk with rfl | rfl | rfl <;> omega⟩)
      have := HWS.out
      have := HW1.out
      refine ⟨rfl, (World.cell?_of_block (hk _ (.inl rfl))).trans c6, (World.cell?_of_block (hk _ (.inr (.inl rfl)))).trans c7, (World.cell?_of_block (hk _ (.inr (.inr rfl)))).trans c10, Lib.hid (a.less (fun _ h => .inl (.inl h)) HH.out.j.own HH.out.xt HH.out.xm)⟩
    · rw [HO.out] at hno
      cases hno))
  clear hwr
  unfold patched at HWR
  have HOS := Lib.hid hos
  have hb1 : (0 : Int) ≤ (f : Int) := by omega
  have hb2 : (f : Int) ≤ (old.size : Int) := by omega
  have hb2' : f ≤ old.size := by omega
  have hb3 : (0 : Int) ≤ (f : Int) + (t.size : Int) := by omega
  have hb4 : (f : Int) + (t.size : Int) ≤ (old.size : Int) := by omega
  have hb5 : ((f : Int) + (t.size : Int)).toNat = f + t.size := by omega
  obtain ⟨x, hx⟩ : ∃ x, old.extract 0 f = x := ⟨_, rfl⟩
  obtain ⟨y, hy⟩ : ∃ y, old.extract (f + t.size) old.size = y := ⟨_, rfl⟩
  obtain ⟨z, hz⟩ : ∃ z, x ++ t = z := ⟨_, rfl⟩
  have hxs : x.size ≤ 64 := by rw [← hx, ByteArray.size_extract]; omega
  have hys : y.size ≤ 64 := by rw [← hy, ByteArray.size_extract]; omega
  have hts : t.size ≤ 64 := by omega
  have hzs : z.size ≤ 128 := by rw [← hz, ByteArray.size_append]; omega
  have s1 : ¬ (9223372036854775807 < x.size + t.size) := by omega
  have s2 : ¬ (9223372036854775807 < z.size + y.size) := by omega
  have HE : Hid (old.extract 0 f ++ t ++ old.extract (f + t.size) old.size = z ++ y) := Lib.hid (by rw [hx, hz, hy])
  rw [HE.out] at HWR
  clear hos hf
  go_wp2_with fail
  refine wp_region_tail 14 (by kernel_rfl) (by kernel_rfl) (fun W4 HW4 => ?_)
  have d6 : W4.cell? ⟨W.heap.size, 0, none⟩ = some (.int .i64 (f : Int)) := by rw [HW4.out]; exact c6
  have d7 : W4.cell? ⟨W.heap.size + 1, 0, none⟩ = some (.string t) := by rw [HW4.out]; exact c7
  have d10 : W4.cell? ⟨w2.heap.size, 0, none⟩ = some (.string old) := by rw [HW4.out]; exact c10
  rw [← HW4.out] at HWR
  clear c6 c7 c10
  simp only [List.take_succ_cons, List.take_zero, List.drop_succ_cons, List.drop_zero]
  repeat still_step
  refine wpStill_nil ?_
  go_wp2_with fail
  refine HWR.out.mono ?_
  rintro e w5 ⟨rfl, -, -, -, hp⟩
  go_wp2_with fail
  go_ret
  refine ⟨rfl, ?_⟩
  have := hp.out
  rw [← HE.out] at this
  exact this
end
end Go.Proofs.Ytjjphcnoegaimaa
