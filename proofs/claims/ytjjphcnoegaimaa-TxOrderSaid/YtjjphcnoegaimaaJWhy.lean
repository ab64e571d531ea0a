/- Package journal: why: why a transaction can't be. -/
import Derived.Test.YtjjphcnoegaimaaJObj
import Derived.Deep.QuietTactic
import Derived.BigQuiet
namespace Go.Proofs.Ytjjphcnoegaimaa
open Go.RowKit Go.Shelf Go.Maps
set_option maxRecDepth 20000

abbrev PutZ := Int × ByteArray
def badZ (N : Nat) (x : PutZ) : Prop := x.1 < 0 ∨ (N : Int) ≤ x.1 ∨ x.2.size ≠ 64
def inZ (fr n : Nat) (x : PutZ) : Prop := (fr : Int) ≤ x.1 ∧ x.1 < (fr : Int) + n
instance (N : Nat) (x : PutZ) : Decidable (badZ N x) := by unfold badZ; infer_instance
instance (fr n : Nat) (x : PutZ) : Decidable (inZ fr n x) := by unfold inZ; infer_instance
/-- Why a transaction can't be. -/
def whyZ (N fr n m : Nat) (l : List PutZ) : Int := if ∃ x ∈ l, badZ N x then 2 else if ∃ x ∈ l, inZ fr n x then 40 else if m < l.length then 4 else 0

theorem drewn_b {B : Nat} {a w : World} (h : Below B a w) (n : Nat) : Below B a (w.drewN n) := ⟨h.os, h.tape, h.output, h.size, h.block⟩

section
variable {w0 w W : World} {X : Nat → Prop} {p jb N B fr n g r : Nat} {s : DS}
theorem JS.drewn (h : JS w0 X p jb N B fr n g r s W) (k : Nat) : JS w0 X p jb N B fr n g r s (W.drewN k) := h.of (drewn_b (Below.refl _ _) k)
theorem len_quiet (h : JS w0 X p jb N B fr n g r s W) : Calls Try.prog 67 #[.pointer (some ⟨p, 0, none⟩)] W fun e W' => e = .returned (.int .i64 N) ∧ W' = W :=
  (js_len h).mono (fun _ _ ⟨a, b⟩ => ⟨a, b.symm⟩)
set_option maxHeartbeats 8000000 in
theorem why_any {v : Value} (l : List PutZ) (h : JS w0 X p jb N B fr n g r s W) (hl : SlP w0 X W v l) {m : Nat} (hm : IsMost n m) (hn : n ≤ 4096) (hfr : fr ≤ 4096) (hlen : l.length ≤ 1000000) (hsz : ∀ x ∈ l, x.2.size ≤ maxLen) :
    Calls Try.prog 69 #[.pointer (some ⟨jb, 0, none⟩), v] W fun e W' => e = .returned (.int .i64 (whyZ N fr n m l)) ∧ Below W.heap.size W W' := by
  obtain ⟨ao, cap, rfl, hval⟩ := hl
  have HV := Lib.hid hval
  have HH := Lib.hid h
  have HM := Lib.hid hm
  have HO : Hid (∀ k, (k < w0.heap.size ∨ X k) → k < W.heap.size) := Lib.hid h.dev.old
  have HSZ := Lib.hid hsz
  clear hval h hm hsz
  go_enter Try.func69, Try.ntmps69
  go_wp2_with fail
  go_loopw [6, 11] (fun _ v11 wr => ∃ k : Nat, k ≤ l.length ∧ v11 = .int .i64 k ∧ Hid (∀ x ∈ l.take k, ¬ badZ N x) ∧ Below W.heap.size W wr) (fun _ v11 _ => l.length - (intOf v11).toNat)
  case atStart => exact ⟨0, Nat.zero_le _, rfl, Lib.hid (by simp), Below.refl _ _⟩
  case round =>
    obtain ⟨k, hk, rfl, HB, hBr⟩ := hrel
    by_cases hlt : k < l.length
    · obtain ⟨b, off, rfl, hb, hc⟩ := HV.out (by omega)
      obtain ⟨c0, c1⟩ := hc k hlt
      rw [List.getD_eq_getElem?_getD, List.getElem?_eq_getElem hlt, Option.getD_some] at c0 c1
      have hbl := HO.out b hb
      have d0 := (hBr.cell (p := ⟨b, off + k * 2, none⟩) hbl).trans c0
      have d1 := (hBr.cell (p := ⟨b, off + k * 2 + 1, none⟩) hbl).trans c1
      have hts : l.take (k + 1) = l.take k ++ [l[k]] := List.take_succ_eq_append_getElem hlt
      have hmem : l[k] ∈ l := List.getElem_mem hlt
      have hxs := HSZ.out _ hmem
      unfold maxLen at hxs
      have HT := Lib.hid hts
      clear hts hc c0 c1
      generalize l[k] = x at *
      obtain ⟨z, dat⟩ := x
      dsimp only at d0 d1 hxs
      have hj := HH.out.of (hBr.trans ((bnew wr (.cells #[.int .i64 z, .string dat] 76)).mono hBr.size))
      have j0 := cl_of hj.obj 0
      have n0 := cl_of (hp_new wr (.cells #[.int .i64 z, .string dat] 76) rfl) 0
      have n1 := cl_of (hp_new wr (.cells #[.int .i64 z, .string dat] 76) rfl) 1
      have HJ := Lib.hid hj
      have HBr := Lib.hid hBr
      clear hj hBr
      have HBA : Hid (Below W.heap.size W (wr.alloc (.cells #[.int .i64 z, .string dat] 76))) := Lib.hid (bal HBr.out _)
      by_cases hbad : badZ N (z, dat)
      · have hw2 : whyZ N fr n m l = 2 := if_pos ⟨_, hmem, hbad⟩
        have HW := Lib.hid hw2
        clear hw2 hmem
        by_cases h1 : z < 0
        · have e1 : decide (z < 0) = true := decide_eq_true h1
          clear h1 hbad
          go_wp2_with fail
          go_quiet ((go_at_call 67; exact Calls.quiet_of_same (len_quiet (JS.drewn HJ.out _))))
          go_wp2_with fail
          go_ret
          exact ⟨by rw [HW.out]; rfl, drewn_b HBA.out nq⟩
        · have e1 : decide (z < 0) = false := decide_eq_false h1
          by_cases h2 : (N : Int) ≤ z
          · have e2 : decide (z ≥ (N : Int)) = true := decide_eq_true h2
            clear h1 h2 hbad
            go_wp2_with fail
            go_quiet ((go_at_call 67; exact Calls.quiet_of_same (len_quiet (JS.drewn HJ.out _))))
            go_wp2_with fail
            go_ret
            exact ⟨by rw [HW.out]; rfl, drewn_b HBA.out nq⟩
          · have e2 : decide (z ≥ (N : Int)) = false := decide_eq_false h2
            have h3 : dat.size ≠ 64 := by rcases hbad with h | h | h; exact absurd h h1; exact absurd h h2; exact h
            have e3 : ((dat.size : Int) == 64) = false := by simp; omega
            have e4 : ((dat.size : Int) != 64) = true := by simp; omega
            clear h1 h2 h3 hbad
            go_wp2_with fail
            go_quiet ((go_at_call 67; exact Calls.quiet_of_same (len_quiet (JS.drewn HJ.out _))))
            go_wp2_with fail
            go_ret
            exact ⟨by rw [HW.out]; rfl, drewn_b HBA.out nq⟩
      · have h1 : ¬ z < 0 := fun e => hbad (.inl e)
        have h2 : ¬ (N : Int) ≤ z := fun e => hbad (.inr (.inl e))
        have h3 : dat.size = 64 := Decidable.of_not_not (fun e => hbad (.inr (.inr e)))
        have e1 : decide (z < 0) = false := decide_eq_false h1
        have e2 : decide (z ≥ (N : Int)) = false := decide_eq_false h2
        have e3 : ((dat.size : Int) == 64) = true := by simp; omega
        have e4 : ((dat.size : Int) != 64) = false := by simp; omega
        have HNX : Hid (∀ x ∈ l.take (k + 1), ¬ badZ N x) := Lib.hid (by
          rw [HT.out]
          intro x hx
          rcases List.mem_append.1 hx with hx | hx
          · exact HB.out x hx
          · rw [List.mem_singleton] at hx
            rw [hx]; exact hbad)
        clear h1 h2 h3 hbad hmem
        go_wp2_with fail
        go_quiet ((go_at_call 67; exact Calls.quiet_of_same (len_quiet (JS.drewn HJ.out _))))
        go_wp2_with fail
        go_roundw
        case rel => exact ⟨k + 1, by omega, by go_num, HNX.out, drewn_b HBA.out nq⟩
        case measure => simp [intOf]; omega
    · obtain rfl : k = l.length := by omega
      rw [List.take_of_length_le (Nat.le_refl _)] at HB
      obtain ⟨wo, rfl⟩ : ∃ wo : World, wo = wr := ⟨_, rfl⟩
      go_wp2_with fail
      go_loopw [8, 37] (fun _ v37 wr => ∃ k : Nat, k ≤ l.length ∧ v37 = .int .i64 k ∧ Hid (∀ x ∈ l.take k, ¬ inZ fr n x) ∧ Below W.heap.size W wr) (fun _ v37 _ => l.length - (intOf v37).toNat)
      case atStart => exact ⟨0, Nat.zero_le _, rfl, Lib.hid (by simp), hBr⟩
      case round =>
        obtain ⟨k, hk, rfl, HI, hBr⟩ := hrel
        by_cases hlt : k < l.length
        · obtain ⟨b, off, rfl, hb, hc⟩ := HV.out (by omega)
          obtain ⟨c0, c1⟩ := hc k hlt
          rw [List.getD_eq_getElem?_getD, List.getElem?_eq_getElem hlt, Option.getD_some] at c0 c1
          have hbl := HO.out b hb
          have d0 := (hBr.cell (p := ⟨b, off + k * 2, none⟩) hbl).trans c0
          have d1 := (hBr.cell (p := ⟨b, off + k * 2 + 1, none⟩) hbl).trans c1
          have hts : l.take (k + 1) = l.take k ++ [l[k]] := List.take_succ_eq_append_getElem hlt
          have hmem : l[k] ∈ l := List.getElem_mem hlt
          have HT := Lib.hid hts
          clear hts hc c0 c1
          generalize l[k] = x at *
          obtain ⟨z, dat⟩ := x
          dsimp only at d0 d1
          have hj := HH.out.of (hBr.trans ((bnew wr (.cells #[.int .i64 z, .string dat] 76)).mono hBr.size))
          have j1 := cl_of hj.obj 1
          have j2 := cl_of hj.obj 2
          have n0 := cl_of (hp_new wr (.cells #[.int .i64 z, .string dat] 76) rfl) 0
          have HJ := Lib.hid hj
          have HBA : Hid (Below W.heap.size W (wr.alloc (.cells #[.int .i64 z, .string dat] 76))) := Lib.hid (bal hBr _)
          have hs : IntKind.i64.wrap ((fr : Int) + (n : Int)) = (fr : Int) + (n : Int) := i64_sm (by omega) (by omega)
          clear hj hBr
          by_cases h1 : (fr : Int) ≤ z
          · have e1 : decide (z ≥ (fr : Int)) = true := decide_eq_true h1
            by_cases h2 : z < (fr : Int) + n
            · have e2 : decide (z < (fr : Int) + (n : Int)) = true := decide_eq_true h2
              have hw2 : whyZ N fr n m l = 40 := (if_neg (fun ⟨x, hx, hb⟩ => HB.out x hx hb)).trans (if_pos ⟨_, hmem, h1, h2⟩)
              have HW := Lib.hid hw2
              clear hw2 hmem h1 h2
              go_wp2_with fail
              go_quiet (fail)
              go_wp2_with fail
              go_ret
              exact ⟨by rw [HW.out]; rfl, drewn_b HBA.out nq⟩
            · have e2 : decide (z < (fr : Int) + (n : Int)) = false := decide_eq_false h2
              have HNX : Hid (∀ x ∈ l.take (k + 1), ¬ inZ fr n x) := Lib.hid (by
                rw [HT.out]
                intro x hx
                rcases List.mem_append.1 hx with hx | hx
                · exact HI.out x hx
                · rw [List.mem_singleton] at hx
                  rw [hx]; exact fun h => h2 h.2)
              clear h1 h2 hmem
              go_wp2_with fail
              go_quiet (fail)
              go_wp2_with fail
              go_roundw
              case rel => exact ⟨k + 1, by omega, by go_num, HNX.out, drewn_b HBA.out nq⟩
              case measure => simp [intOf]; omega
          · have e1 : decide (z ≥ (fr : Int)) = false := decide_eq_false h1
            have HNX : Hid (∀ x ∈ l.take (k + 1), ¬ inZ fr n x) := Lib.hid (by
              rw [HT.out]
              intro x hx
              rcases List.mem_append.1 hx with hx | hx
              · exact HI.out x hx
              · rw [List.mem_singleton] at hx
                rw [hx]; exact fun h => h1 h.1)
            clear h1 hmem
            go_wp2_with fail
            go_quiet (fail)
            go_wp2_with fail
            go_roundw
            case rel => exact ⟨k + 1, by omega, by go_num, HNX.out, drewn_b HBA.out nq⟩
            case measure => simp [intOf]; omega
        · obtain rfl : k = l.length := by omega
          rw [List.take_of_length_le (Nat.le_refl _)] at HI
          have HJ := Lib.hid (HH.out.of hBr)
          have hw0 : whyZ N fr n m l = if m < l.length then 4 else 0 := (if_neg (fun ⟨x, hx, hb⟩ => HB.out x hx hb)).trans (if_neg (fun ⟨x, hx, hb⟩ => HI.out x hx hb))
          by_cases h4 : m < l.length
          · rw [if_pos h4] at hw0
            have HW := Lib.hid hw0
            have e4 : decide (m < l.length) = true := decide_eq_true h4
            clear hw0 h4
            go_wp2_with fail
            refine (jmax_any HJ.out HM.out (by omega)).mono ?_
            rintro e w3 ⟨rfl, rfl⟩
            go_wp2_with fail
            go_ret
            exact ⟨by rw [HW.out]; rfl, hBr⟩
          · rw [if_neg h4] at hw0
            have HW := Lib.hid hw0
            have e4 : decide (m < l.length) = false := decide_eq_false h4
            clear hw0 h4
            go_wp2_with fail
            refine (jmax_any HJ.out HM.out (by omega)).mono ?_
            rintro e w3 ⟨rfl, rfl⟩
            go_wp2_with fail
            go_ret
            exact ⟨by rw [HW.out]; rfl, hBr⟩
end
end Go.Proofs.Ytjjphcnoegaimaa
