/- lunettelaw08.outside, whatever rows; Commit and Open of the law. -/
import Derived.Test.YtjjphcnoegaimaaGreatTxAtom0
namespace Go.Proofs.YtjjphcnoegaimaaGreat
open Go.RowKit Go.Shelf Go.Maps
set_option maxRecDepth 20000
set_option linter.unusedVariables false

section
variable {w0 w W W' : World} {X : Nat → Prop} {p jb N B fr n g r tb m : Nat} {s s' : DS} {M : Wl} {dn : Bool}
set_option maxHeartbeats 4000000 in
/-- Whatever rows of sectors. -/
theorem outside8_any {Y Z : Nat → Prop} {va vb : Value} {A C : List ByteArray} (ha : TxAt W va A Y) (hb : TxAt W vb C Z) (hl : A.length = C.length) (hl2 : A.length ≤ 4096) :
    Calls Tryz.prog 17 #[va, vb] W fun e W' => ∃ c, e = .returned (.bool c) ∧ Below W.heap.size W W' := by
  obtain ⟨ao, cap, rfl, hca⟩ := ha
  obtain ⟨bo, bcap, rfl, hcb⟩ := hb
  rw [← hl] at hcb ⊢
  have HA := Lib.hid hca
  have HB := Lib.hid hcb
  clear hca hcb hl
  go_enter Tryz.func17, Tryz.ntmps17
  go_wp2_with fail
  go_loopw [5] (fun v5 wr => ∃ k : Nat, k ≤ A.length ∧ v5 = .int .i64 k ∧ Below W.heap.size W wr) (fun v5 _ => A.length - (intOf v5).toNat)
  case atStart => exact ⟨0, Nat.zero_le _, rfl, Below.refl _ _⟩
  case round =>
    obtain ⟨k, hk, rfl, hBr⟩ := hrel
    by_cases hlt : k < A.length
    · obtain ⟨ga, rfl, -, hga, hc1⟩ := HA.out (by omega)
      obtain ⟨gb, rfl, -, hgb, hc2⟩ := HB.out (by omega)
      have d1 := (hBr.cell (p := ⟨ga, k, none⟩) hga).trans (hc1 k hlt)
      have d2 := (hBr.cell (p := ⟨gb, k, none⟩) hgb).trans (hc2 k hlt)
      have HBr := Lib.hid hBr
      clear hc1 hc2 hBr
      generalize A.getD k ByteArray.empty = a1 at *
      generalize C.getD k ByteArray.empty = b1 at *
      by_cases he : a1 = b1
      · subst he
        have e0 : (a1.toList == a1.toList) = true := by simp
        go_wp2_with fail
        go_quiet (fail)
        go_wp2_with fail
        go_roundw
        case rel => exact ⟨k + 1, by omega, by go_num, drewn_b HBr.out nq⟩
        case measure => simp [intOf]; omega
      · by_cases hin : 4 ≤ k ∧ k < 16
        · have ne : ¬ a1 = b1 := he
          have e0 : (a1.toList == b1.toList) = false := by
            apply beq_false_of_ne
            intro e
            apply he
            rw [Go.ByteArray.toList_eq, Go.ByteArray.toList_eq] at e
            cases a1; cases b1
            simp only at e
            rw [Array.toList_inj.1 e]
          have e1 : decide ((k : Int) < 4) = false := decide_eq_false (by omega)
          have e1' : decide (k < 4) = false := decide_eq_false (by omega)
          have e2 : decide ((k : Int) ≥ 16) = false := decide_eq_false (by omega)
          have e2' : decide (16 ≤ k) = false := decide_eq_false (by omega)
          clear hin he ne
          go_wp2_with fail
          go_quiet (fail)
          go_wp2_with fail
          go_roundw
          case rel => exact ⟨k + 1, by omega, by go_num, drewn_b HBr.out nq⟩
          case measure => simp [intOf]; omega
        · have ne : ¬ a1 = b1 := he
          have e0 : (a1.toList == b1.toList) = false := by
            apply beq_false_of_ne
            intro e
            apply he
            rw [Go.ByteArray.toList_eq, Go.ByteArray.toList_eq] at e
            cases a1; cases b1
            simp only at e
            rw [Array.toList_inj.1 e]
          by_cases h4 : k < 4
          · have e1 : decide ((k : Int) < 4) = true := decide_eq_true (by omega)
            have e1' : decide (k < 4) = true := decide_eq_true (by omega)
            clear hin he ne
            go_wp2_with fail
            go_quiet (fail)
            go_wp2_with fail
            go_ret
            exact ⟨_, rfl, drewn_b HBr.out nq⟩
          · have e1 : decide ((k : Int) < 4) = false := decide_eq_false (by omega)
            have e1' : decide (k < 4) = false := decide_eq_false (by omega)
            have e2 : decide ((k : Int) ≥ 16) = true := decide_eq_true (by omega)
            have e2' : decide (16 ≤ k) = true := decide_eq_true (by omega)
            clear hin he ne
            go_wp2_with fail
            go_quiet (fail)
            go_wp2_with fail
            go_ret
            exact ⟨_, rfl, drewn_b HBr.out nq⟩
    · obtain rfl : k = A.length := by omega
      go_wp2_with fail
      go_ret
      exact ⟨_, rfl, hBr⟩

theorem commit8 {ff : Nat} {l : Puts} (h : TJ w X p jb 40 B 4 12 0 0 (fuseS (newS 40) (ff : Int)) tb m (zP l) false W) (mp : MayP 40 4 12 l) (hB : B + 600 ≤ 90000) :
    Calls Tryz.prog 20 #[.pointer (some ⟨tb, 0, none⟩)] W fun e W' => ∃ (c d : Int) (s' : DS) (g' : Nat), e = .returned (.tuple #[.int .u64 c, .int .i64 d]) ∧ TJ w X p jb 40 (B + 600) 4 12 g' 0 s' tb m (zP l) true W' ∧ Kb w (fun k => X k ∧ k ≠ tb ∧ k ≠ jb) W W' ∧
      ((d = 0 ∧ ∃ h', Clean s' h' ∧ readB (h' 4) = (g', 0) ∧ ∀ i, Out 40 4 12 i → h' i = laid (fun _ => zsec) l i) ∨ (d = 30 ∧ s' = (runO (fuseS (newS 40) (ff : Int)) (commitO 4 1 l)).1)) := by
  have hwc := mp.wc (by decide) (0 + 1)
  have hcl : Clean (fuseS (newS 40) (ff : Int)) (fun _ => zsec) := fun i hi => newS_clean 40 i hi
  refine (tx_commit l h most_12 mp (by decide) (by omega)).mono ?_
  rintro e W' (⟨hl, rfl, a, b⟩ | ⟨hl, hok, rfl, a, b⟩ | ⟨hl, hno, rfl, a, b⟩)
  · refine ⟨_, _, _, _, rfl, a.mono (by omega), b.less (fun k hk => ⟨hk.1, hk.2.1⟩), .inl ⟨rfl, _, hcl, readB_zsec, fun i _ => ?_⟩⟩
    rw [hl]; rfl
  · obtain ⟨h', c1, c2⟩ := commit_whole (s := fuseS (newS 40) (ff : Int)) mp (newS_JL 40 4).hard hcl hok
    exact ⟨_, _, _, _, rfl, a.mono (by omega), b, .inl ⟨rfl, h', c1, by rw [c2.1]; exact readB_head _ 0 (by decide) (by decide), c2.2⟩⟩
  · exact ⟨_, _, _, _, rfl, a.mono (by omega), b, .inr ⟨rfl, rfl⟩⟩
/-- What Open leaves behind the law's crash. -/
structure Op8 (w : World) (X : Nat → Prop) (p : Nat) (W : World) (s2 : DS) (h2 : Nat → ByteArray) (W' : World) : Prop where
  dev : DvO w X p s2 W'
  hard : s2.hard.length = 40
  dead : s2.dead = false
  new : ∀ i, i < 40 → newest s2 i = h2 i
  kb : Kb w X W W'
theorem open8_ok {g' : Nat} {h' : Nat → ByteArray} {keep : ByteArray} (hj : JS w X p jb 40 B 4 12 g' 0 (crashS keep s) W) (hc : Clean s h') (hr : readB (h' 4) = (g', 0)) (hB : B + 600 ≤ 90000) :
    Calls Tryz.prog 22 #[.pointer (some ⟨p, 0, none⟩), .int .i64 4, .int .i64 12] W fun e W' => ∃ (j2 : Nat) (s2 : DS), e = .returned (.tuple #[.pointer (some ⟨j2, 0, none⟩), .int .i64 0]) ∧ Op8 w X p W s2 h' W' := by
  have jl : JL 40 4 g' h' (crashS keep s) := ⟨hj.ok.hard, hc.crash keep, rfl, rfl, hr⟩
  refine (open_JL (fr := 4) (n := 12) hj.dev hj.ok jl (by decide) (by decide) (by decide) (by decide) most_12).mono ?_
  rintro e W' ⟨rfl, a, b⟩
  exact ⟨_, _, rfl, a.dev.less (fun _ h => .inl h), jl.hard, jl.dead, fun i hi => jl.newest hi, b⟩
theorem open8_torn {ff : Nat} {l : Puts} {keep : ByteArray} {g' : Nat} (hj : JS w X p jb 40 B 4 12 g' 0 (crashS keep (runO (fuseS (newS 40) (ff : Int)) (commitO 4 1 l)).1) W) (mp : MayP 40 4 12 l) (hB : B + 600 ≤ 90000) :
    Calls Tryz.prog 22 #[.pointer (some ⟨p, 0, none⟩), .int .i64 4, .int .i64 12] W fun e W' => ∃ (j2 : Nat) (s2 : DS) (h2 : Nat → ByteArray), e = .returned (.tuple #[.pointer (some ⟨j2, 0, none⟩), .int .i64 0]) ∧ Op8 w X p W s2 h2 W' ∧ ((∀ i, Out 40 4 12 i → h2 i = zsec) ∨ ∀ i, Out 40 4 12 i → h2 i = laid (fun _ => zsec) l i) := by
  have hcl : Clean (fuseS (newS 40) (ff : Int)) (fun _ => zsec) := fun i hi => newS_clean 40 i hi
  obtain ⟨h', c1, c2⟩ := commit_torn (s := fuseS (newS 40) (ff : Int)) (g := 1) mp (newS_JL 40 4).hard hcl keep
  refine (open_torn (g := 0) hj.dev hj.ok rfl rfl c1 readB_zsec mp c2 (by decide) (by decide) (by decide) most_12 hB).mono ?_
  rintro e W' ⟨g2, r2, s2, h2, rfl, a, jl, b, hcase⟩
  exact ⟨_, _, h2, rfl, ⟨a.dev.less (fun _ h => .inl h), jl.hard, jl.dead, fun i hi => jl.newest hi, b⟩, hcase.imp (fun h => h.2) (fun h => h.2)⟩
end
end Go.Proofs.YtjjphcnoegaimaaGreat
