/- package lunetteref16: the document's clocks; both stamps in one form. -/
import Derived.Test.YthmabnigdnbdkaaDuo
import Derived.Test.YthmabnigdnbdkaaClock
namespace Go.Proofs.Ythmabnigdnbdkaa
open Go.RowKit
set_option maxRecDepth 20000

/-- The document's clocks: at block t, over the document's cells at block q. -/
def RClk (W : World) (t q : Nat) (base : Int) : Prop := W.heap[t]? = some (.cells #[.pointer (some ⟨q, 0, none⟩), .int .u64 base] 82 (0, 0))
theorem RClk.lt {W : World} {t q : Nat} {base : Int} (h : RClk W t q base) : t < W.heap.size := (Array.getElem?_eq_some_iff.1 h).1
theorem RClk.kt {W W' : World} {t q : Nat} {base : Int} (h : RClk W t q base) (k : Kt2 W W') : RClk W' t q base := (k t _ _ _ h (by decide) (by decide) (by decide) (by decide)).trans h
theorem ClkAt.kt {W W' : World} {s p : Nat} {base : Int} (h : ClkAt W s p base) (k : Kt2 W W') : ClkAt W' s p base := (k s _ _ _ h (by decide) (by decide) (by decide) (by decide)).trans h

/-- What Stamp answers. -/
def cval (base : Int) (N : List (Int × Int)) (core least : Int) : Int × Int := if chas core = false then (0, 2) else cstamp (max (cwithin (nget (u64s base core) N)) least) core
/-- What is noted of it. -/
def clogs (on : Bool) (S : List Touch) (base core er : Int) : List Touch := if er = 2 then S else if er = 4 then logged on S ⟨core, u64s base core, false⟩ else logged on (logged on S ⟨core, u64s base core, false⟩) ⟨core, u64s base core, true⟩

theorem clk_stamp {w : World} {s p m : Nat} {base : Int} {sv : Value} {on : Bool} {N : List (Int × Int)} {S : List Touch} (hq : ClkAt w s p base) (h : CellsAt w p m sv on N S) (core least d er : Int) (hn : Few S) (hn2 : ∀ x, Few (logged on S x)) (hv : cval base N core least = (d, er)) :
    Calls Try.prog 45 #[.pointer (some ⟨s, 0, none⟩), .int .i64 core, .int .u64 least] w fun e w' => e = .returned (.tuple #[.int .u64 d, .int .i64 er]) ∧ CStep w p m sv on (if er = 0 then nput (u64s base core) d N else N) (clogs on S base core er) w' := by
  unfold cval at hv
  by_cases h1 : chas core = false
  · rw [if_pos h1] at hv
    cases hv
    refine (clk_stamp_no w s core least h1).mono ?_
    rintro e w' ⟨rfl, rfl⟩
    exact ⟨rfl, sv, h, Fr.refl _ _, .inl rfl⟩
  · rw [if_neg h1] at hv
    have h1' : chas core = true := by simpa using h1
    unfold cstamp at hv
    by_cases h2 : 4611686018427387904 ≤ max (cwithin (nget (u64s base core) N)) least
    · rw [if_pos (.inl h2)] at hv
      cases hv
      exact clk_stamp_full hq h core least _ hn h1' rfl h2
    · by_cases h3 : 4611686018427387904 < cdraw (max (cwithin (nget (u64s base core) N)) least) core
      · rw [if_pos (.inr h3)] at hv
        cases hv
        exact clk_stamp_over hq h core least _ hn h1' rfl (by omega) _ rfl h3
      · rw [if_neg (by omega)] at hv
        cases hv
        exact clk_stamp_good hq h core least _ hn (hn2 _) h1' rfl (by omega) _ rfl (by omega)

set_option maxHeartbeats 400000 in
theorem rclk_within (w : World) (v : Int) : Calls Try.prog 67 #[.int .i64 v] w fun e w' => e = .returned (.int .u64 (cwithin v)) ∧ w = w' := by
  go_enter Try.func67, Try.ntmps67
  by_cases h1 : v < 0
  · go_wp2_with fail
    go_ret
    exact ⟨by simp [cwithin, h1], rfl⟩
  · by_cases h2 : 4611686018427387904 < v
    · go_wp2_with fail
      go_ret
      exact ⟨by simp [cwithin, h2], rfl⟩
    · go_wp2_with fail
      go_ret
      exact ⟨by rw [cwithin, if_neg (by omega)]; rfl, rfl⟩

set_option maxHeartbeats 1000000 in
theorem rclk_last {w : World} {t q : Nat} {base : Int} {vL vS : Value} {on : Bool} {L : List (Int × Int)} {S : List Touch} (hq : RClk w t q base) (h : RefAt w q vL vS on L S) (hl : L.length ≤ 10000) (core : Int) (hc : chas core = true) :
    Calls Try.prog 50 #[.pointer (some ⟨t, 0, none⟩), .int .i64 core] w fun e w' => e = .returned (.int .u64 (cwithin (nget (u64s base core) L))) ∧ Fr (fun _ => False) w w' := by
  have h0 := cl_of hq 0
  have h1 := cl_of hq 1
  have hcc : 0 ≤ core ∧ core < 8 := by simpa [chas] using hc
  have hd := h.keep (W' := w.drew) fun _ _ => rfl
  go_enter Try.func50, Try.ntmps50
  go_wp2_with fail
  go_region_held3 (fun W => W.cell? ⟨t, 0, none⟩ = some (.pointer (some ⟨q, 0, none⟩)) ∧ W.cell? ⟨t, 1, none⟩ = some (.int .u64 base)) (first | exact ⟨h0, h1⟩ | (simp only [*]; exact ⟨h0, h1⟩)) (first | (go_at_call 27; refine (ref_peek (by first | exact h | exact hd) (u64s base (IntKind.u64.wrap core)) hl).mono ?_; rintro e w' ⟨rfl, hst⟩; subst hst) | (go_at_call 67; refine (rclk_within _ _).mono ?_; rintro e w' ⟨rfl, hst⟩; subst hst))
  first | (rename_i hK; refine hK _ _ ?_; clear hK) | (rename_i hK _; refine hK _ _ ?_; clear hK) | (rename_i hK _ _; refine hK _ _ ?_; clear hK)
  go_wp2_with fail
  go_ret
  exact ⟨by rw [u64_core hc]; rfl, (Fr.refl _ _).drew⟩

set_option maxHeartbeats 1000000 in
theorem rclk_last_no {w : World} {t : Nat} (core : Int) (hc : chas core = false) :
    Calls Try.prog 50 #[.pointer (some ⟨t, 0, none⟩), .int .i64 core] w fun e w' => e = .returned (.int .u64 0) ∧ Fr (fun _ => False) w w' := by
  have hcc : ¬ (0 ≤ core ∧ core < 8) := by simpa [chas] using hc
  go_enter Try.func50, Try.ntmps50
  by_cases h1 : core < 0
  · go_wp2_with fail
    go_ret
    exact ⟨rfl, Fr.refl _ _⟩
  · have h2 : 7 < core := by omega
    go_wp2_with fail
    go_ret
    exact ⟨rfl, Fr.refl _ _⟩

set_option maxHeartbeats 1000000 in
theorem rclk_most {w : World} {t q : Nat} {base : Int} {vL vS : Value} {on : Bool} {L : List (Int × Int)} {S : List Touch} (hq : RClk w t q base) (h : RefAt w q vL vS on L S) (hl : L.length ≤ 10000) :
    Calls Try.prog 51 #[.pointer (some ⟨t, 0, none⟩)] w fun e w' => e = .returned (.int .u64 (cmost base L 8)) ∧ Fr (fun _ => False) w w' := by
  go_enter Try.func51, Try.ntmps51
  go_wp2_with fail
  go_loopw [3, 4] (fun v3 v4 wr => ∃ k : Nat, ∃ M : Int, k ≤ 8 ∧ v4 = .int .i64 k ∧ v3 = .int .u64 M ∧ Hid (M = cmost base L k) ∧ Fr (fun _ => False) w wr) (fun _ v4 _ => 8 - (intOf v4).toNat)
  case atStart => exact ⟨0, 0, by omega, rfl, rfl, Lib.hid rfl, Fr.refl _ _⟩
  case round =>
    obtain ⟨k, M, hk, rfl, rfl, HM, hf⟩ := hrel
    by_cases hlt : k < 8
    · have hmm : (if M < cwithin (nget (u64s base k) L) then cwithin (nget (u64s base k) L) else M) = cmost base L (k + 1) := by rw [HM.out]; simp only [cmost]; split <;> omega
      go_wp2_with fail
      refine (rclk_last (hq.kt (Kt2.fr hf)) (h.fr hf fun _ _ => id) hl (k : Int) (by simp [chas]; omega)).mono ?_
      rintro e w2 ⟨rfl, hf2⟩
      go_wp2_with fail
      go_roundw
      case rel => exact ⟨k + 1, cmost base L (k + 1), by omega, by go_num, rfl, Lib.hid rfl, hf.trans hf2⟩
      case measure => simp [intOf]; omega
    · obtain rfl : k = 8 := by omega
      go_wp2_with fail
      go_ret
      exact ⟨by rw [HM.out]; rfl, hf⟩
set_option maxHeartbeats 2000000 in
theorem rclk_stamp_full {w : World} {t q : Nat} {base : Int} {vL vS : Value} {on : Bool} {L : List (Int × Int)} {S : List Touch} (hq : RClk w t q base) (h : RefAt w q vL vS on L S) (core least v : Int) (hn : Few S) (hl : L.length ≤ 10000) (hc : chas core = true) (hcb : core < 8)
    (hv : max (cwithin (nget (u64s base core) L)) least = v) (hlt : 4611686018427387904 ≤ v) :
    Calls Try.prog 49 #[.pointer (some ⟨t, 0, none⟩), .int .i64 core, .int .u64 least] w fun e w' => e = .returned (.tuple #[.int .u64 0, .int .i64 4]) ∧ RStep w q vL vS on L (logged on S ⟨core, u64s base core, false⟩) w' := by
  have c0 := cl_of hq 0
  have c1 := cl_of hq 1
  have hc0 : 0 ≤ core := by simp only [chas, decide_eq_true_eq] at hc; exact hc.1
  go_enter Try.func49, Try.ntmps49
  go_wp2_with fail
  refine (ref_read h hn hl core (u64s base core)).mono ?_
  rintro e w2 ⟨rfl, hst⟩
  have d0 : w2.cell? ⟨t, 0, none⟩ = some (.pointer (some ⟨q, 0, none⟩)) := by
    obtain ⟨vL', vS', a, b, _⟩ := hst
    exact (b.cell (p := ⟨t, 0, none⟩) hq.lt (h.away hq (by decide) (by decide) (by decide))).trans c0
  go_wp2_with fail
  refine (rclk_within w2 _).mono ?_
  rintro e w3 ⟨rfl, rfl⟩
  have hm : (if cwithin (nget (u64s base core) L) < least then least else cwithin (nget (u64s base core) L)) = v := by rw [← hv]; split <;> omega
  have hv0 : 0 ≤ v := by have := cwithin_nn (nget (u64s base core) L); rw [← hv]; omega
  clear hv
  go_wp2_with fail
  exact bodyPost_ret (v := .tuple #[.int .u64 0, .int .i64 4]) (by simp [results, Try.results49, go_sem]) rfl ⟨rfl, hst⟩

set_option maxHeartbeats 2000000 in
theorem rclk_stamp_over {w : World} {t q : Nat} {base : Int} {vL vS : Value} {on : Bool} {L : List (Int × Int)} {S : List Touch} (hq : RClk w t q base) (h : RefAt w q vL vS on L S) (core least v : Int) (hn : Few S) (hl : L.length ≤ 10000) (hc : chas core = true) (hcb : core < 8)
    (hv : max (cwithin (nget (u64s base core) L)) least = v) (hlt : v < 4611686018427387904) (d : Int) (hd : cdraw v core = d) (hdo : 4611686018427387904 < d) :
    Calls Try.prog 49 #[.pointer (some ⟨t, 0, none⟩), .int .i64 core, .int .u64 least] w fun e w' => e = .returned (.tuple #[.int .u64 0, .int .i64 4]) ∧ RStep w q vL vS on L (logged on S ⟨core, u64s base core, false⟩) w' := by
  have c0 := cl_of hq 0
  have c1 := cl_of hq 1
  have hc0 : 0 ≤ core := by simp only [chas, decide_eq_true_eq] at hc; exact hc.1
  go_enter Try.func49, Try.ntmps49
  go_wp2_with fail
  refine (ref_read h hn hl core (u64s base core)).mono ?_
  rintro e w2 ⟨rfl, hst⟩
  have d0 : w2.cell? ⟨t, 0, none⟩ = some (.pointer (some ⟨q, 0, none⟩)) := by
    obtain ⟨vL', vS', a, b, _⟩ := hst
    exact (b.cell (p := ⟨t, 0, none⟩) hq.lt (h.away hq (by decide) (by decide) (by decide))).trans c0
  go_wp2_with fail
  refine (rclk_within w2 _).mono ?_
  rintro e w3 ⟨rfl, rfl⟩
  have hm : (if cwithin (nget (u64s base core) L) < least then least else cwithin (nget (u64s base core) L)) = v := by rw [← hv]; split <;> omega
  have hv0 : 0 ≤ v := by have := cwithin_nn (nget (u64s base core) L); rw [← hv]; omega
  clear hv
  have hgt := cdraw_gt v core
  have hmod := cdraw_mod (v := v) hc
  have hmin : ∀ y, v + 1 ≤ y → y < d → ¬ y % 8 = core := by
    intro y h1 h2
    simp only [chas, decide_eq_true_eq] at hc
    rw [← hd] at h2
    unfold cdraw at h2
    omega
  rw [hd] at hgt hmod
  have HG := Lib.hid hgt
  have HD := Lib.hid hmod
  clear hgt hmod
  go_wp2_with fail
  go_loop [9] (fun v9 => ∃ y : Int, v9 = .int .u64 y ∧ Hid (v + 1 ≤ y ∧ y ≤ d)) (fun v9 => (d - intOf v9).toNat)
  case atStart => exact ⟨v + 1, rfl, Lib.hid ⟨by omega, by have := HG.out; omega⟩⟩
  case round =>
    obtain ⟨y, rfl, HY⟩ := hrel
    have hy0 : 0 ≤ y := by have := HY.out; omega
    have hyb : y ≤ 4611686018427387912 := by have := HY.out; have := HG.out; omega
    by_cases hyd : y < d
    · have hne : ¬ y % 8 = core := hmin y HY.out.1 hyd
      go_wp2_with fail
      go_round
      case rel => exact ⟨y + 1, by go_num, Lib.hid ⟨by have := HY.out; omega, by omega⟩⟩
      case measure => simp [intOf]; omega
    · obtain rfl : y = d := by have := HY.out; omega
      have he : y % 8 = core := HD.out
      go_wp2_with fail
      exact bodyPost_ret (v := .tuple #[.int .u64 0, .int .i64 4]) (by simp [results, Try.results49, go_sem]) rfl ⟨rfl, hst⟩

set_option maxHeartbeats 2000000 in
theorem rclk_stamp_good {w : World} {t q : Nat} {base : Int} {vL vS : Value} {on : Bool} {L : List (Int × Int)} {S : List Touch} (hq : RClk w t q base) (h : RefAt w q vL vS on L S) (core least v : Int) (hn : Few S) (hn2 : ∀ x, Few (logged on S x)) (hl : L.length ≤ 10000) (hc : chas core = true) (hcb : core < 8)
    (hv : max (cwithin (nget (u64s base core) L)) least = v) (hlt : v < 4611686018427387904) (d : Int) (hd : cdraw v core = d) (hdo : d ≤ 4611686018427387904) :
    Calls Try.prog 49 #[.pointer (some ⟨t, 0, none⟩), .int .i64 core, .int .u64 least] w fun e w' => e = .returned (.tuple #[.int .u64 d, .int .i64 0]) ∧ RStep w q vL vS on (lset (u64s base core) d L) (logged on (logged on S ⟨core, u64s base core, false⟩) ⟨core, u64s base core, true⟩) w' := by
  have c0 := cl_of hq 0
  have c1 := cl_of hq 1
  have hc0 : 0 ≤ core := by simp only [chas, decide_eq_true_eq] at hc; exact hc.1
  go_enter Try.func49, Try.ntmps49
  go_wp2_with fail
  refine (ref_read h hn hl core (u64s base core)).mono ?_
  rintro e w2 ⟨rfl, hst⟩
  have d0 : w2.cell? ⟨t, 0, none⟩ = some (.pointer (some ⟨q, 0, none⟩)) := by
    obtain ⟨vL', vS', a, b, _⟩ := hst
    exact (b.cell (p := ⟨t, 0, none⟩) hq.lt (h.away hq (by decide) (by decide) (by decide))).trans c0
  go_wp2_with fail
  refine (rclk_within w2 _).mono ?_
  rintro e w3 ⟨rfl, rfl⟩
  have hm : (if cwithin (nget (u64s base core) L) < least then least else cwithin (nget (u64s base core) L)) = v := by rw [← hv]; split <;> omega
  have hv0 : 0 ≤ v := by have := cwithin_nn (nget (u64s base core) L); rw [← hv]; omega
  clear hv
  have hgt := cdraw_gt v core
  have hmod := cdraw_mod (v := v) hc
  have hmin : ∀ y, v + 1 ≤ y → y < d → ¬ y % 8 = core := by
    intro y h1 h2
    simp only [chas, decide_eq_true_eq] at hc
    rw [← hd] at h2
    unfold cdraw at h2
    omega
  rw [hd] at hgt hmod
  have HG := Lib.hid hgt
  have HD := Lib.hid hmod
  clear hgt hmod
  go_wp2_with fail
  go_loop [9] (fun v9 => ∃ y : Int, v9 = .int .u64 y ∧ Hid (v + 1 ≤ y ∧ y ≤ d)) (fun v9 => (d - intOf v9).toNat)
  case atStart => exact ⟨v + 1, rfl, Lib.hid ⟨by omega, by have := HG.out; omega⟩⟩
  case round =>
    obtain ⟨y, rfl, HY⟩ := hrel
    have hy0 : 0 ≤ y := by have := HY.out; omega
    have hyb : y ≤ 4611686018427387912 := by have := HY.out; have := HG.out; omega
    by_cases hyd : y < d
    · have hne : ¬ y % 8 = core := hmin y HY.out.1 hyd
      go_wp2_with fail
      go_round
      case rel => exact ⟨y + 1, by go_num, Lib.hid ⟨by have := HY.out; omega, by omega⟩⟩
      case measure => simp [intOf]; omega
    · obtain rfl : y = d := by have := HY.out; omega
      have he : y % 8 = core := HD.out
      go_wp2_with fail
      obtain ⟨vL1, vS1, hst1⟩ := id hst
      refine (ref_write hst1.1 (hn2 _) hl core (u64s base core) y).mono ?_
      rintro e w4 ⟨rfl, hst2⟩
      go_wp2_with fail
      exact bodyPost_ret (v := .tuple #[.int .u64 y, .int .i64 0]) (by simp [results, Try.results49, go_sem]) rfl ⟨rfl, RStep.trans ⟨vL1, vS1, hst1, hst2⟩⟩


set_option maxHeartbeats 1000000 in
theorem rclk_stamp_no {w : World} {t : Nat} (core least : Int) (hc : chas core = false) :
    Calls Try.prog 49 #[.pointer (some ⟨t, 0, none⟩), .int .i64 core, .int .u64 least] w fun e w' => e = .returned (.tuple #[.int .u64 0, .int .i64 2]) ∧ w = w' := by
  have hcc : ¬ (0 ≤ core ∧ core < 8) := by simpa [chas] using hc
  go_enter Try.func49, Try.ntmps49
  by_cases h1 : core < 0
  · go_wp2_with fail
    exact bodyPost_ret (v := .tuple #[.int .u64 0, .int .i64 2]) (by simp [results, Try.results49, go_sem]) rfl ⟨rfl, rfl⟩
  · have h2 : 7 < core := by omega
    go_wp2_with fail
    exact bodyPost_ret (v := .tuple #[.int .u64 0, .int .i64 2]) (by simp [results, Try.results49, go_sem]) rfl ⟨rfl, rfl⟩

theorem rclk_stamp {w : World} {t q : Nat} {base : Int} {vL vS : Value} {on : Bool} {L : List (Int × Int)} {S : List Touch} (hq : RClk w t q base) (h : RefAt w q vL vS on L S) (core least d er : Int) (hn : Few S) (hn2 : ∀ x, Few (logged on S x)) (hl : L.length ≤ 10000) (hv : cval base L core least = (d, er)) :
    Calls Try.prog 49 #[.pointer (some ⟨t, 0, none⟩), .int .i64 core, .int .u64 least] w fun e w' => e = .returned (.tuple #[.int .u64 d, .int .i64 er]) ∧ RStep w q vL vS on (if er = 0 then lset (u64s base core) d L else L) (clogs on S base core er) w' := by
  unfold cval at hv
  by_cases h1 : chas core = false
  · rw [if_pos h1] at hv
    cases hv
    refine (rclk_stamp_no core least h1).mono ?_
    rintro e w' ⟨rfl, rfl⟩
    exact ⟨rfl, RStep.refl h⟩
  · rw [if_neg h1] at hv
    have h1' : chas core = true := by simpa using h1
    have h8 : core < 8 := by simp only [chas, decide_eq_true_eq] at h1'; exact h1'.2
    unfold cstamp at hv
    by_cases h2 : 4611686018427387904 ≤ max (cwithin (nget (u64s base core) L)) least
    · rw [if_pos (.inl h2)] at hv
      cases hv
      exact rclk_stamp_full hq h core least _ hn hl h1' h8 rfl h2
    · by_cases h3 : 4611686018427387904 < cdraw (max (cwithin (nget (u64s base core) L)) least) core
      · rw [if_pos (.inr h3)] at hv
        cases hv
        exact rclk_stamp_over hq h core least _ hn hl h1' h8 rfl (by omega) _ rfl h3
      · rw [if_neg (by omega)] at hv
        cases hv
        exact rclk_stamp_good hq h core least _ hn hn2 hl h1' h8 rfl (by omega) _ rfl (by omega)

set_option maxHeartbeats 1000000 in
theorem clk_most_nil (w : World) :
    Calls Try.prog 46 #[.pointer none] w fun e w' => e = .returned (.int .u64 0) ∧ Fr (fun _ => False) w w' := by
  go_enter Try.func46, Try.ntmps46
  go_wp2_with fail
  go_loopw [2, 4] (fun v2 v4 wr => ∃ k : Nat, k ≤ 8 ∧ v4 = .int .i64 k ∧ v2 = .int .u64 0 ∧ Fr (fun _ => False) w wr) (fun _ v4 _ => 8 - (intOf v4).toNat)
  case atStart => exact ⟨0, by omega, rfl, rfl, Fr.refl _ _⟩
  case round =>
    obtain ⟨k, hk, rfl, rfl, hf⟩ := hrel
    by_cases hlt : k < 8
    · go_wp2_with fail
      refine (clk_last_nil _ _).mono ?_
      rintro e w2 ⟨rfl, hf2⟩
      go_wp2_with fail
      go_roundw
      case rel => exact ⟨k + 1, by omega, by go_num, rfl, hf.trans hf2⟩
      case measure => simp [intOf]; omega
    · obtain rfl : k = 8 := by omega
      go_wp2_with fail
      go_ret
      exact ⟨rfl, hf⟩
/-- A core's last, of whichever core. -/
def clast (base : Int) (N : List (Int × Int)) (core : Int) : Int := if chas core = true then cwithin (nget (u64s base core) N) else 0
theorem clk_last_any {w : World} {s p m : Nat} {base : Int} {sv : Value} {on : Bool} {N : List (Int × Int)} {S : List Touch} (hq : ClkAt w s p base) (h : CellsAt w p m sv on N S) (core : Int) :
    Calls Try.prog 47 #[.pointer (some ⟨s, 0, none⟩), .int .i64 core] w fun e w' => e = .returned (.int .u64 (clast base N core)) ∧ Fr (fun _ => False) w w' := by
  unfold clast
  by_cases hc : chas core = true
  · rw [if_pos hc]; exact clk_last hq h core hc
  · rw [if_neg hc]; exact clk_last_no w s core (by simpa using hc)
theorem rclk_last_any {w : World} {t q : Nat} {base : Int} {vL vS : Value} {on : Bool} {L : List (Int × Int)} {S : List Touch} (hq : RClk w t q base) (h : RefAt w q vL vS on L S) (hl : L.length ≤ 10000) (core : Int) :
    Calls Try.prog 50 #[.pointer (some ⟨t, 0, none⟩), .int .i64 core] w fun e w' => e = .returned (.int .u64 (clast base L core)) ∧ Fr (fun _ => False) w w' := by
  unfold clast
  by_cases hc : chas core = true
  · rw [if_pos hc]; exact rclk_last hq h hl core hc
  · rw [if_neg hc]; exact rclk_last_no core (by simpa using hc)
theorem clast_same {base : Int} {N L : List (Int × Int)} (h : ∀ k, nget k N = nget k L) (core : Int) : clast base N core = clast base L core := by simp only [clast, h]
theorem cmost_same {base : Int} {N L : List (Int × Int)} (h : ∀ k, nget k N = nget k L) : ∀ k, cmost base N k = cmost base L k
  | 0 => rfl
  | k + 1 => by simp only [cmost, cmost_same h k, h]
theorem cval_same {base : Int} {N L : List (Int × Int)} (h : ∀ k, nget k N = nget k L) (core least : Int) : cval base N core least = cval base L core least := by simp only [cval, h]
theorem logged_length (on : Bool) (S : List Touch) (x : Touch) : (logged on S x).length ≤ S.length + 1 := by
  unfold logged; split <;> simp
theorem clogs_length (on : Bool) (S : List Touch) (base core er : Int) : (clogs on S base core er).length ≤ S.length + 2 := by
  have h1 := logged_length on S ⟨core, u64s base core, false⟩
  have h2 := logged_length on (logged on S ⟨core, u64s base core, false⟩) ⟨core, u64s base core, true⟩
  unfold clogs; split
  · omega
  · split <;> omega
end Go.Proofs.Ythmabnigdnbdkaa
