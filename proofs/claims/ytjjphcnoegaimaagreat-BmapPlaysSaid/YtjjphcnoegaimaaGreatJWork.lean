/- Package journal: what a transaction under way does to the device: lay, mark, done, record. -/
import Derived.Test.YtjjphcnoegaimaaGreatGI
import Derived.Test.YtjjphcnoegaimaaGreatGA
import Derived.StillTailTactics
namespace Go.Proofs.YtjjphcnoegaimaaGreat
open Go.RowKit Go.Shelf Go.Maps
set_option maxRecDepth 20000
set_option linter.unusedVariables false

theorem runO_stop {s : DS} {a b : List DOp} (h : (runO s a).2 = true) (hd : (runO s a).1.dead = true) (hb : b ≠ []) : runO s (a ++ b) = ((runO s a).1, false) := by
  rw [runO_append, if_pos h]
  obtain ⟨o, b, rfl⟩ := List.exists_cons_of_ne_nil hb
  rw [runO, if_pos hd]
theorem runO_go {s : DS} {a : List DOp} {o : DOp} (h : (runO s a).2 = true) (hd : (runO s a).1.dead = false) : runO s (a ++ [o]) = (o.on (runO s a).1, true) := by
  rw [runO_append, if_pos h, runO_one, if_neg (by rw [hd]; decide)]

section
variable {w0 w W : World} {X : Nat → Prop} {p jb N B fr n g r : Nat} {s : DS}
theorem js_write_yes (h : JS w0 X p jb N B fr n g r s W) (hB : B ≤ 90000) (hd : s.dead = false) (i : Nat) (hi : i < N) (b : ByteArray) (hb : b.size = 64) : Calls Tryz.prog 107 #[.pointer (some ⟨p, 0, none⟩), .int .i64 i, .string b] W fun e W' =>
    e = .returned (.int .i64 0) ∧ JS w0 X p jb N (B + 1) fr n g r ((DOp.wr i b).on s) W' ∧ Kb w0 X W W' := by
  have := js_write h hB i hi b hb
  rw [runO_one, if_neg (by rw [hd]; decide)] at this
  exact this
theorem js_write_no (h : JS w0 X p jb N B fr n g r s W) (hB : B ≤ 90000) (hd : s.dead = true) (i : Nat) (hi : i < N) (b : ByteArray) (hb : b.size = 64) : Calls Tryz.prog 107 #[.pointer (some ⟨p, 0, none⟩), .int .i64 i, .string b] W fun e W' =>
    e = .returned (.int .i64 30) ∧ JS w0 X p jb N (B + 1) fr n g r s W' ∧ Kb w0 X W W' := by
  have := js_write h hB i hi b hb
  rw [runO_one, if_pos hd] at this
  exact this

/-- What lay, record, mark and done leave. -/
def WkPost (w0 : World) (X : Nat → Prop) (p jb N B fr n g r : Nat) (s : DS) (o : List DOp) (W : World) (e : Ending) (W' : World) : Prop :=
  e = .returned (.int .i64 (errO (runO s o))) ∧ JS w0 X p jb N (B + wcount o) fr n g r (runO s o).1 W' ∧ Kb w0 X W W'
theorem layO_append (a b : Puts) : layO (a ++ b) = layO a ++ layO b := by simp [layO]
theorem wcount_lay (l : Puts) : wcount (layO l) = l.length := by
  induction l with
  | nil => rfl
  | cons x l ih => simp [layO, wcount] at ih ⊢; exact ih
theorem wcount_wrs (l : List ByteArray) : ∀ a, wcount (wrsO a l) = l.length := by
  induction l with
  | nil => intro a; rfl
  | cons x l ih => intro a; simp [wrsO, wcount, ih]

set_option maxHeartbeats 4000000 in
theorem lay_any {wb : Nat} {lv : Value} {g' : Nat} (l : Puts) (h : JS w0 X p jb N B fr n g r s W) (hw : WO W wb jb g' lv) (hx : X wb) (hl : SlP w0 X W lv (zP l)) (hB : B + l.length ≤ 90000) (hp : ∀ x ∈ l, x.1 < N ∧ x.2.size = 64) :
    Calls Tryz.prog 80 #[.pointer (some ⟨wb, 0, none⟩)] W (WkPost w0 X p jb N B fr n g r s (layO l) W) := by
  obtain ⟨ao, cap, rfl, hval⟩ := hl
  rw [zP_length] at hw hval
  have hw0 := cl_of hw 0
  have hw2 := cl_of hw 2
  have HV := Lib.hid hval
  have HH := Lib.hid h
  clear hval h
  go_enter Tryz.func80, Tryz.ntmps80
  go_wp2_with fail
  go_loopw [2, 4, 5, 11] (fun _ _ _ v11 wr => ∃ k : Nat, k ≤ l.length ∧ v11 = .int .i64 k ∧ Hid ((runO s (layO (l.take k))).2 = true) ∧ JS w0 X p jb N (B + k) fr n g r (runO s (layO (l.take k))).1 wr ∧ Kb w0 X W wr) (fun _ _ _ v11 _ => l.length - (intOf v11).toNat)
  case atStart => exact ⟨0, Nat.zero_le _, rfl, rfl, HH.out, Kb.refl _ _ _⟩
  case round =>
    obtain ⟨k, hk, rfl, HR, hI, hkb⟩ := hrel
    by_cases hlt : k < l.length
    · obtain ⟨b, off, rfl, hb, hc⟩ := HV.out (by omega)
      obtain ⟨c0, c1⟩ := hc k hlt
      rw [zP_get l k hlt] at c0 c1
      have c0' := (hkb.cell hb _).trans c0
      have c1' := (hkb.cell hb _).trans c1
      have hx1 := hp l[k] (List.getElem_mem hlt)
      have htk : layO (l.take (k + 1)) = layO (l.take k) ++ [.wr l[k].1 l[k].2] := by
        rw [List.take_succ_eq_append_getElem hlt, layO_append]
        rfl
      have htd : layO l = layO (l.take k) ++ layO (l.drop k) := by
        rw [← layO_append, List.take_append_drop]
      have hne : layO (l.drop k) ≠ [] := by
        intro e
        have := congrArg List.length e
        simp [layO] at this
        omega
      have HT := Lib.hid htk
      have HD := Lib.hid htd
      have hq0 := (hkb wb (.inr hx)).trans hw
      have q0 := cl_of hq0 0
      have hjo := hI.obj
      have j0 := cl_of hjo 0
      clear htk htd hc c0 c1
      generalize l[k] = x at *
      obtain ⟨sec, dat⟩ := x
      dsimp only at *
      have hIt := hI.take (bnew wr (.cells #[.int .i64 sec, .string dat] 111))
      have HI := Lib.hid hI
      have hqa := blk_old hq0 (.cells #[.int .i64 sec, .string dat] 111)
      have hja := blk_old hjo (.cells #[.int .i64 sec, .string dat] 111)
      have hna := hp_new wr (.cells #[.int .i64 sec, .string dat] 111) rfl
      have n0 := cl_of hna 0
      have n1 := cl_of hna 1
      have q0a := cl_of hqa 0
      have j0a := cl_of hja 0
      clear hI hjo hqa hja hna hq0
      have hres := fun (W2 : World) (e : W2 = (wr.alloc (.cells #[.int .i64 sec, .string dat] 111)).drew) => (by rw [e]; exact ⟨hIt.drew, q0a, j0a, n0, n1⟩ : JS w0 (fun i => X i ∨ wr.heap.size ≤ i ∧ i < (wr.alloc (.cells #[.int .i64 sec, .string dat] 111)).heap.size) p jb N (B + k) fr n g r (runO s (layO (l.take k))).1 W2 ∧ W2.cell? ⟨wb, 0, none⟩ = some (.pointer (some ⟨jb, 0, none⟩)) ∧ W2.cell? ⟨jb, 0, none⟩ = some (.pointer (some ⟨p, 0, none⟩)) ∧ W2.cell? ⟨wr.heap.size, 0, none⟩ = some (.int .i64 sec) ∧ W2.cell? ⟨wr.heap.size, 1, none⟩ = some (.string dat))
      have hkw : ∀ W2, W2 = (wr.alloc (.cells #[.int .i64 sec, .string dat] 111)).drew → Kb w0 X W W2 := fun W2 e => hkb.t (by rw [e]; exact HI.out.kb ((bnew _ _).drew))
      have HRS := Lib.hid hres
      have HKW := Lib.hid hkw
      clear hres hkw hIt hkb q0a j0a n0 n1 q0 j0
      obtain ⟨s1, hs1⟩ : ∃ s1, (runO s (layO (l.take k))).1 = s1 := ⟨_, rfl⟩
      cases hd : s1.dead
      · go_wp2_with fail
        refine wp_region_tail 11 (by kernel_rfl) (by kernel_rfl) (fun W2 HW2 => ?_)
        obtain ⟨hI2, q0, j0, n0, n1⟩ := HRS.out W2 HW2.out
        have hk2 := HKW.out W2 HW2.out
        rw [hs1] at hI2
        have HWR := Lib.hid (js_write_yes hI2 (by omega) hd sec hx1.1 dat hx1.2)
        have HI2 := Lib.hid hI2
        clear hI2
        simp only [List.take_succ_cons, List.take_zero, List.drop_succ_cons, List.drop_zero]
        repeat still_step
        refine wpStill_nil ?_
        go_wp2_with fail
        refine HWR.out.mono ?_
        rintro e w3 ⟨rfl, h3, k3⟩
        have hgo := runO_go (o := .wr sec dat) HR.out (by rw [hs1]; exact hd)
        rw [hs1] at hgo
        have HG := Lib.hid hgo
        clear hgo
        go_wp2_with fail
        go_roundw
        case rel => exact ⟨k + 1, by omega, by go_num, by rw [HT.out, HG.out]; rfl, by rw [HT.out, HG.out]; exact h3.less (fun _ h => .inl h) HI.out.own, hk2.t (k3.less (fun _ h => .inl h))⟩
        case measure => simp [intOf]; omega
      · go_wp2_with fail
        refine wp_region_tail 11 (by kernel_rfl) (by kernel_rfl) (fun W2 HW2 => ?_)
        obtain ⟨hI2, q0, j0, n0, n1⟩ := HRS.out W2 HW2.out
        have hk2 := HKW.out W2 HW2.out
        rw [hs1] at hI2
        have HWR := Lib.hid (js_write_no hI2 (by omega) hd sec hx1.1 dat hx1.2)
        have HI2 := Lib.hid hI2
        clear hI2
        simp only [List.take_succ_cons, List.take_zero, List.drop_succ_cons, List.drop_zero]
        repeat still_step
        refine wpStill_nil ?_
        go_wp2_with fail
        refine HWR.out.mono ?_
        rintro e w3 ⟨rfl, h3, k3⟩
        have hst := runO_stop HR.out (by rw [hs1]; exact hd) hne
        rw [← HD.out, hs1] at hst
        have HS := Lib.hid hst
        clear hst
        go_wp2_with fail
        go_ret
        exact ⟨by rw [HS.out]; rfl, by rw [HS.out, wcount_lay]; exact (h3.less (fun _ h => .inl h) HI.out.own).mono (by omega), hk2.t (k3.less (fun _ h => .inl h))⟩
    · obtain rfl : k = l.length := by omega
      rw [List.take_of_length_le (Nat.le_refl _)] at HR hI
      go_wp2_with fail
      go_ret
      exact ⟨by rw [errO, if_pos HR.out]; rfl, by rw [wcount_lay]; exact hI, hkb⟩

set_option maxHeartbeats 4000000 in
theorem mark_any {wb : Nat} {g' : Nat} {ao : Option Addr} {len cap : Nat} (h : JS w0 X p jb N B fr n g r s W) (hw : WO W wb jb g' (.slice ao len cap)) (hx : X wb) (hB : B + 1 ≤ 90000) (hg : g' < 18446744073709551616) (hl : len < 65536) (hfr : fr < N) :
    Calls Tryz.prog 79 #[.pointer (some ⟨wb, 0, none⟩)] W (WkPost w0 X p jb N B fr n g r s [.wr fr (headB g' len)] W) := by
  have hres : ∀ W2, Kb w0 X W W2 → (W2.cell? ⟨wb, 0, none⟩ = some (.pointer (some ⟨jb, 0, none⟩)) ∧ W2.cell? ⟨wb, 1, none⟩ = some (.int .u64 g') ∧ W2.cell? ⟨wb, 2, none⟩ = some (.slice ao len cap) ∧ W2.cell? ⟨jb, 0, none⟩ = some (.pointer (some ⟨p, 0, none⟩)) ∧ W2.cell? ⟨jb, 1, none⟩ = some (.int .i64 fr)) := fun W2 k =>
    ⟨cl_of (hw.kb k hx) 0, cl_of (hw.kb k hx) 1, cl_of (hw.kb k hx) 2, cl_of ((k jb (.inr h.own)).trans h.obj) 0, cl_of ((k jb (.inr h.own)).trans h.obj) 1⟩
  obtain ⟨q0, q1, q2, j0, j1⟩ := hres W (Kb.refl _ _ _)
  have hhd : ∀ W, Calls Tryz.prog 110 #[.int .u64 g', .int .i64 len] W fun e w' => e = .returned (.string (headB g' len)) ∧ Below W.heap.size W w' := fun W => head_any g' len hg hl W
  have hsz := headB_size g' len
  have HRS := Lib.hid hres
  have HHD := Lib.hid hhd
  have HSZ := Lib.hid hsz
  have HH := Lib.hid h
  clear hres hhd hsz hw h
  go_enter Tryz.func79, Tryz.ntmps79
  go_wp2_with fail
  first | (go_region_held3 (fun W2 => W2.cell? ⟨wb, 0, none⟩ = some (.pointer (some ⟨jb, 0, none⟩)) ∧ W2.cell? ⟨wb, 1, none⟩ = some (.int .u64 g') ∧ W2.cell? ⟨wb, 2, none⟩ = some (.slice ao len cap) ∧ W2.cell? ⟨jb, 0, none⟩ = some (.pointer (some ⟨p, 0, none⟩)) ∧ W2.cell? ⟨jb, 1, none⟩ = some (.int .i64 fr)) (first | exact ⟨q0, q1, q2, j0, j1⟩ | assumption | exact HRS.out _ (by assumption)) (first | (go_at_call 110; ((with_reducible refine (HHD.out _).mono ?_); rintro e w3 ⟨rfl, hB3⟩; have h3 := (HH.out.drew).of hB3; have k3 := HH.out.kb (bt (Below.refl W.heap.size W).drew hB3))) | (go_at_call 107; ((with_reducible refine (js_write h3 (by omega) fr hfr (headB g' len) HSZ.out).mono ?_); rintro e w4 ⟨rfl, h4, k4⟩; have k5 := k3.t k4)))) | fail
  first | (rename_i hK; refine hK _ _ ?_; clear hK) | (rename_i hK _; refine hK _ _ ?_; clear hK) | (rename_i hK _ _; refine hK _ _ ?_; clear hK)
  go_wp2_with fail
  go_ret
  exact ⟨rfl, h4, k5⟩
set_option maxHeartbeats 4000000 in
theorem done_any {wb : Nat} {g' : Nat} {ao : Option Addr} {len cap : Nat} (h : JS w0 X p jb N B fr n g r s W) (hw : WO W wb jb g' (.slice ao len cap)) (hx : X wb) (hB : B + 1 ≤ 90000) (hg : g' < 18446744073709551616) (hl : len < 65536) (hfr : fr < N) :
    Calls Tryz.prog 81 #[.pointer (some ⟨wb, 0, none⟩)] W (WkPost w0 X p jb N B fr n g r s [.wr fr (headB g' 0)] W) := by
  have hres : ∀ W2, Kb w0 X W W2 → (W2.cell? ⟨wb, 0, none⟩ = some (.pointer (some ⟨jb, 0, none⟩)) ∧ W2.cell? ⟨wb, 1, none⟩ = some (.int .u64 g') ∧ W2.cell? ⟨wb, 2, none⟩ = some (.slice ao len cap) ∧ W2.cell? ⟨jb, 0, none⟩ = some (.pointer (some ⟨p, 0, none⟩)) ∧ W2.cell? ⟨jb, 1, none⟩ = some (.int .i64 fr)) := fun W2 k =>
    ⟨cl_of (hw.kb k hx) 0, cl_of (hw.kb k hx) 1, cl_of (hw.kb k hx) 2, cl_of ((k jb (.inr h.own)).trans h.obj) 0, cl_of ((k jb (.inr h.own)).trans h.obj) 1⟩
  obtain ⟨q0, q1, q2, j0, j1⟩ := hres W (Kb.refl _ _ _)
  have hhd : ∀ W, Calls Tryz.prog 110 #[.int .u64 g', .int .i64 0] W fun e w' => e = .returned (.string (headB g' 0)) ∧ Below W.heap.size W w' := fun W => head_any g' 0 hg (by decide) W
  have hsz := headB_size g' 0
  have HRS := Lib.hid hres
  have HHD := Lib.hid hhd
  have HSZ := Lib.hid hsz
  have HH := Lib.hid h
  clear hres hhd hsz hw h
  go_enter Tryz.func81, Tryz.ntmps81
  go_wp2_with fail
  first | (go_region_held3 (fun W2 => W2.cell? ⟨wb, 0, none⟩ = some (.pointer (some ⟨jb, 0, none⟩)) ∧ W2.cell? ⟨wb, 1, none⟩ = some (.int .u64 g') ∧ W2.cell? ⟨wb, 2, none⟩ = some (.slice ao len cap) ∧ W2.cell? ⟨jb, 0, none⟩ = some (.pointer (some ⟨p, 0, none⟩)) ∧ W2.cell? ⟨jb, 1, none⟩ = some (.int .i64 fr)) (first | exact ⟨q0, q1, q2, j0, j1⟩ | assumption | exact HRS.out _ (by assumption)) (first | (go_at_call 110; ((with_reducible refine (HHD.out _).mono ?_); rintro e w3 ⟨rfl, hB3⟩; have h3 := (HH.out.drew).of hB3; have k3 := HH.out.kb (bt (Below.refl W.heap.size W).drew hB3))) | (go_at_call 107; ((with_reducible refine (js_write h3 (by omega) fr hfr (headB g' 0) HSZ.out).mono ?_); rintro e w4 ⟨rfl, h4, k4⟩; have k5 := k3.t k4)))) | fail
  first | (rename_i hK; refine hK _ _ ?_; clear hK) | (rename_i hK _; refine hK _ _ ?_; clear hK) | (rename_i hK _ _; refine hK _ _ ?_; clear hK)
  go_wp2_with fail
  go_ret
  exact ⟨rfl, h4, k5⟩
end
end Go.Proofs.YtjjphcnoegaimaaGreat
