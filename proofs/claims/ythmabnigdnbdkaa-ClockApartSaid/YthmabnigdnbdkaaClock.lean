/- package clock: stamps over cells; the walks through its methods. -/
import Derived.Test.YthmabnigdnbdkaaSeq
namespace Go.Proofs.Ythmabnigdnbdkaa
open Go.RowKit
set_option maxRecDepth 20000

/-- Clocks: at block s, over cells at block p. -/
def ClkAt (W : World) (s p : Nat) (base : Int) : Prop := W.heap[s]? = some (.cells #[.pointer (some ⟨p, 0, none⟩), .int .u64 base] 116 (0, 0))
theorem ClkAt.lt {W : World} {s p : Nat} {base : Int} (h : ClkAt W s p base) : s < W.heap.size := (Array.getElem?_eq_some_iff.1 h).1
theorem ClkAt.apart {W : World} {s p p' m : Nat} {base : Int} {sv : Value} {on : Bool} {N : List (Int × Int)} {S : List Touch} (h : ClkAt W s p' base) (hc : CellsAt W p m sv on N S) : ¬ cfoot p m sv s := by
  rintro (rfl | rfl | hk)
  · rw [ClkAt, hc.obj] at h; simp at h
  · obtain ⟨es, c, hb, _⟩ := hc.map
    rw [ClkAt, hb] at h; cases h
  · obtain ⟨cur, hb⟩ := ownsRow_type hc.row hk
    rw [ClkAt, hb] at h; simp at h
theorem ClkAt.fr {W W' : World} {s p : Nat} {base : Int} {T : Nat → Prop} (h : ClkAt W s p base) (hf : Fr T W W') (hd : ¬ T s) : ClkAt W' s p base := (hf.block s h.lt hd).trans h
theorem ClkAt.step {w w' : World} {s p p' m : Nat} {base : Int} {sv : Value} {on : Bool} {N N0 : List (Int × Int)} {S S0 : List Touch} (hq : ClkAt w s p' base) (h0 : CellsAt w p m sv on N0 S0) (h : CStep w p m sv on N S w') : ClkAt w' s p' base := by
  obtain ⟨sv', a, b, c⟩ := h
  exact hq.fr b (hq.apart h0)
theorem CStep.trans {w w1 w2 : World} {p m : Nat} {sv : Value} {on : Bool} {N N2 : List (Int × Int)} {S S2 : List Touch} (h1 : ∃ sv', (CellsAt w1 p m sv' on N S ∧ Fr (cfoot p m sv) w w1 ∧ svstep w sv sv') ∧ CStep w1 p m sv' on N2 S2 w2) : CStep w p m sv on N2 S2 w2 := by
  obtain ⟨sv', ⟨a, b, c⟩, sv2, a2, b2, c2⟩ := h1
  have hsz := b.size
  refine ⟨sv2, a2, ?_, ?_⟩
  · refine ⟨b2.os.trans b.os, b2.tape.trans b.tape, b2.output.trans b.output, by have := b2.size; omega, fun k hk hn => ?_⟩
    refine (b2.block k (by omega) ?_).trans (b.block k hk hn)
    rintro (rfl | rfl | hg)
    · exact hn (.inl rfl)
    · exact hn (.inr (.inl rfl))
    · rcases c with c | ⟨g, hg', hl⟩
      · exact hn (.inr (.inr (c ▸ hg)))
      · rw [hg] at hg'; cases hg'; omega
  · rcases c2 with c2 | ⟨g, hg, hl⟩
    · rcases c with c | ⟨g, hg, hl⟩
      · exact .inl (c2.trans c)
      · exact .inr ⟨g, c2.trans hg, hl⟩
    · exact .inr ⟨g, hg, by omega⟩

/-- A cell's number as a stamp. -/
def cwithin (v : Int) : Int := if v < 0 ∨ v > 4611686018427387904 then 4611686018427387904 else v
theorem cwithin_zero : cwithin 0 = 0 := by decide
theorem cwithin_nn (v : Int) : 0 ≤ cwithin v := by unfold cwithin; split <;> omega
theorem cwithin_le (v : Int) : cwithin v ≤ 4611686018427387904 := by unfold cwithin; split <;> omega
/-- What a core draws above v. -/
def cdraw (v core : Int) : Int := v + 1 + (core - (v + 1)) % 8
/-- How a stamp ends: the stamp, the error. -/
def cstamp (v core : Int) : Int × Int := if 4611686018427387904 ≤ v ∨ 4611686018427387904 < cdraw v core then (0, 4) else (cdraw v core, 0)

set_option maxHeartbeats 400000 in
theorem clk_new (w : World) (p : Nat) (base : Int) : Calls Try.prog 44 #[.pointer (some ⟨p, 0, none⟩), .int .u64 base] w fun e w' => e = .returned (.pointer (some ⟨w.heap.size, 0, none⟩)) ∧ ClkAt w' w.heap.size p base ∧ w.alloc (.cells #[.pointer (some ⟨p, 0, none⟩), .int .u64 base] 116) = w' := by
  go_enter Try.func44, Try.ntmps44
  go_wp2_with fail
  go_ret
  exact ⟨rfl, hp_new _ _ rfl, rfl⟩

set_option maxHeartbeats 400000 in
theorem clk_new_nil (w : World) (base : Int) : Calls Try.prog 44 #[.pointer none, .int .u64 base] w fun e w' => e = .returned (.pointer none) ∧ w = w' := by
  go_enter Try.func44, Try.ntmps44
  go_wp2_with fail
  go_ret
  exact ⟨rfl, rfl⟩

def chas (core : Int) : Bool := decide (0 ≤ core ∧ core < 8)
set_option maxHeartbeats 400000 in
theorem clk_has (w : World) (core : Int) : Calls Try.prog 64 #[.int .i64 core] w fun e w' => e = .returned (.bool (chas core)) ∧ w = w' := by
  go_enter Try.func64, Try.ntmps64
  by_cases h1 : 0 ≤ core
  · by_cases h2 : core < 8
    · go_wp2_with fail
      go_ret
      exact ⟨by simp [chas, h1, h2], rfl⟩
    · go_wp2_with fail
      go_ret
      exact ⟨by simp [chas, h1, h2], rfl⟩
  · go_wp2_with fail
    go_ret
    exact ⟨by have : ¬ (0 ≤ core ∧ core < 8) := by omega
              simp only [chas, this, decide_false]; rfl, rfl⟩

set_option maxHeartbeats 400000 in
theorem clk_within (w : World) (q : Value) (v : Int) : Calls Try.prog 65 #[q, .int .i64 v] w fun e w' => e = .returned (.int .u64 (cwithin v)) ∧ w = w' := by
  go_enter Try.func65, Try.ntmps65
  by_cases h1 : v < 0
  · go_wp2_with fail
    go_ret
    exact ⟨by simp [cwithin, h1], rfl⟩
  · by_cases h2 : 4611686018427387904 < v
    · go_wp2_with fail
      go_ret
      exact ⟨by simp [cwithin, h2], rfl⟩
    · go_wp2_with fail
      go_ret
      exact ⟨by rw [cwithin, if_neg (by omega)]; rfl, rfl⟩

set_option maxHeartbeats 400000 in
theorem clk_core (w : World) (v : Int) (h0 : 0 ≤ v) : Calls Try.prog 48 #[.int .u64 v] w fun e w' => e = .returned (.int .i64 (v % 8)) ∧ w = w' := by
  go_enter Try.func48, Try.ntmps48
  go_wp2_with fail
  go_ret
  exact ⟨by first | rfl | (simp; rw [wrap64_of] <;> omega), rfl⟩

theorem u64_core {core : Int} (h : chas core = true) : IntKind.u64.wrap core = core := by
  simp only [chas, decide_eq_true_eq] at h
  rw [IntKind.wrap_u64]; omega

set_option maxHeartbeats 400000 in
theorem clk_stamp_nil (w : World) (core least : Int) : Calls Try.prog 45 #[.pointer none, .int .i64 core, .int .u64 least] w fun e w' => e = .returned (.tuple #[.int .u64 0, .int .i64 1]) ∧ w = w' := by
  go_enter Try.func45, Try.ntmps45
  go_wp2_with fail
  exact bodyPost_ret (v := .tuple #[.int .u64 0, .int .i64 1]) (by simp [results, Try.results45, go_sem]) rfl ⟨rfl, rfl⟩

set_option maxHeartbeats 400000 in
theorem clk_stamp_no (w : World) (s : Nat) (core least : Int) (hc : chas core = false) : Calls Try.prog 45 #[.pointer (some ⟨s, 0, none⟩), .int .i64 core, .int .u64 least] w fun e w' => e = .returned (.tuple #[.int .u64 0, .int .i64 2]) ∧ w = w' := by
  go_enter Try.func45, Try.ntmps45
  go_wp2_with fail
  refine (clk_has w core).mono ?_
  rw [hc]
  rintro e w' ⟨rfl, rfl⟩
  go_wp2_with fail
  exact bodyPost_ret (v := .tuple #[.int .u64 0, .int .i64 2]) (by simp [results, Try.results45, go_sem]) rfl ⟨rfl, rfl⟩

theorem cdraw_gt (v core : Int) : v < cdraw v core ∧ cdraw v core ≤ v + 8 := by unfold cdraw; omega
theorem cdraw_mod {v core : Int} (hc : chas core = true) : cdraw v core % 8 = core := by
  simp only [chas, decide_eq_true_eq] at hc
  unfold cdraw; omega
theorem draw_wrap {v core : Int} (h0 : 0 ≤ v) (h1 : v < 4611686018427387904) (hc : chas core = true) : IntKind.u64.wrap (v + 1 + (IntKind.u64.wrap (IntKind.u64.wrap core - (v + 1))).tmod 8) = cdraw v core := by
  rw [u64_core hc]
  simp only [chas, decide_eq_true_eq] at hc
  have e : (IntKind.u64.wrap (core - (v + 1))).tmod 8 = (core - (v + 1)) % 8 := by
    rw [IntKind.wrap_u64, Int.tmod_eq_emod_of_nonneg (by omega)]
    omega
  rw [e, IntKind.wrap_u64]
  unfold cdraw
  omega

set_option maxHeartbeats 1000000 in
theorem clk_stamp_full {w : World} {s p m : Nat} {base : Int} {sv : Value} {on : Bool} {N : List (Int × Int)} {S : List Touch} (hq : ClkAt w s p base) (h : CellsAt w p m sv on N S) (core least v : Int) (hn : Few S) (hc : chas core = true)
    (hv : max (cwithin (nget (u64s base core) N)) least = v) (hlt : 4611686018427387904 ≤ v) :
    Calls Try.prog 45 #[.pointer (some ⟨s, 0, none⟩), .int .i64 core, .int .u64 least] w fun e w' => e = .returned (.tuple #[.int .u64 0, .int .i64 4]) ∧ CStep w p m sv on N (logged on S ⟨core, u64s base core, false⟩) w' := by
  have c0 := cl_of hq 0
  have c1 := cl_of hq 1
  go_enter Try.func45, Try.ntmps45
  go_wp2_with fail
  refine (clk_has w core).mono ?_
  rw [hc]
  rintro e w1 ⟨rfl, rfl⟩
  go_wp2_with fail
  rw [u64_core hc]
  refine (read_any h hn core (u64s base core)).mono ?_
  rintro e w2 ⟨rfl, hst⟩
  have d0 := hst.cell c0 (hq.apart h)
  go_wp2_with fail
  refine (clk_within w2 _ _).mono ?_
  rintro e w3 ⟨rfl, rfl⟩
  have hm : (if cwithin (nget (u64s base core) N) < least then least else cwithin (nget (u64s base core) N)) = v := by rw [← hv]; split <;> omega
  have hv0 : 0 ≤ v := by have := cwithin_nn (nget (u64s base core) N); rw [← hv]; omega
  clear hv
  go_wp2_with fail
  exact bodyPost_ret (v := .tuple #[.int .u64 0, .int .i64 4]) (by simp [results, Try.results45, go_sem]) rfl ⟨rfl, hst⟩

set_option maxHeartbeats 1000000 in
theorem clk_stamp_over {w : World} {s p m : Nat} {base : Int} {sv : Value} {on : Bool} {N : List (Int × Int)} {S : List Touch} (hq : ClkAt w s p base) (h : CellsAt w p m sv on N S) (core least v : Int) (hn : Few S) (hc : chas core = true)
    (hv : max (cwithin (nget (u64s base core) N)) least = v) (hlt : v < 4611686018427387904) (d : Int) (hd : cdraw v core = d) (hdo : 4611686018427387904 < d) :
    Calls Try.prog 45 #[.pointer (some ⟨s, 0, none⟩), .int .i64 core, .int .u64 least] w fun e w' => e = .returned (.tuple #[.int .u64 0, .int .i64 4]) ∧ CStep w p m sv on N (logged on S ⟨core, u64s base core, false⟩) w' := by
  have c0 := cl_of hq 0
  have c1 := cl_of hq 1
  go_enter Try.func45, Try.ntmps45
  go_wp2_with fail
  refine (clk_has w core).mono ?_
  rw [hc]
  rintro e w1 ⟨rfl, rfl⟩
  go_wp2_with fail
  rw [u64_core hc]
  refine (read_any h hn core (u64s base core)).mono ?_
  rintro e w2 ⟨rfl, hst⟩
  have d0 := hst.cell c0 (hq.apart h)
  go_wp2_with fail
  refine (clk_within w2 _ _).mono ?_
  rintro e w3 ⟨rfl, rfl⟩
  have hm : (if cwithin (nget (u64s base core) N) < least then least else cwithin (nget (u64s base core) N)) = v := by rw [← hv]; split <;> omega
  have hv0 : 0 ≤ v := by have := cwithin_nn (nget (u64s base core) N); rw [← hv]; omega
  clear hv
  have he := draw_wrap hv0 hlt hc
  rw [hd] at he
  go_wp2_with fail
  exact bodyPost_ret (v := .tuple #[.int .u64 0, .int .i64 4]) (by simp [results, Try.results45, go_sem]) rfl ⟨rfl, hst⟩

set_option maxHeartbeats 1000000 in
theorem clk_stamp_good {w : World} {s p m : Nat} {base : Int} {sv : Value} {on : Bool} {N : List (Int × Int)} {S : List Touch} (hq : ClkAt w s p base) (h : CellsAt w p m sv on N S) (core least v : Int) (hn : Few S) (hn2 : Few (logged on S ⟨core, u64s base core, false⟩)) (hc : chas core = true)
    (hv : max (cwithin (nget (u64s base core) N)) least = v) (hlt : v < 4611686018427387904) (d : Int) (hd : cdraw v core = d) (hdo : d ≤ 4611686018427387904) :
    Calls Try.prog 45 #[.pointer (some ⟨s, 0, none⟩), .int .i64 core, .int .u64 least] w fun e w' => e = .returned (.tuple #[.int .u64 d, .int .i64 0]) ∧ CStep w p m sv on (nput (u64s base core) d N) (logged on (logged on S ⟨core, u64s base core, false⟩) ⟨core, u64s base core, true⟩) w' := by
  have c0 := cl_of hq 0
  have c1 := cl_of hq 1
  go_enter Try.func45, Try.ntmps45
  go_wp2_with fail
  refine (clk_has w core).mono ?_
  rw [hc]
  rintro e w1 ⟨rfl, rfl⟩
  go_wp2_with fail
  rw [u64_core hc]
  refine (read_any h hn core (u64s base core)).mono ?_
  rintro e w2 ⟨rfl, hst⟩
  have d0 := hst.cell c0 (hq.apart h)
  go_wp2_with fail
  refine (clk_within w2 _ _).mono ?_
  rintro e w3 ⟨rfl, rfl⟩
  have hm : (if cwithin (nget (u64s base core) N) < least then least else cwithin (nget (u64s base core) N)) = v := by rw [← hv]; split <;> omega
  have hv0 : 0 ≤ v := by have := cwithin_nn (nget (u64s base core) N); rw [← hv]; omega
  clear hv
  have hd0 : 0 ≤ d := by have := (cdraw_gt v core).1; omega
  have he := draw_wrap hv0 hlt hc
  rw [hd] at he
  go_wp2_with fail
  obtain ⟨sv1, hst1⟩ := id hst
  refine (write_any hst1.1 hn2 core (u64s base core) d).mono ?_
  rintro e w4 ⟨rfl, hst2⟩
  go_wp2_with fail
  exact bodyPost_ret (v := .tuple #[.int .u64 d, .int .i64 0]) (by simp [results, Try.results45, go_sem]) rfl ⟨rfl, CStep.trans ⟨sv1, hst1, hst2⟩⟩

set_option maxHeartbeats 1000000 in
theorem clk_last1 {w : World} {s p m a b : Nat} {base : Int} {sv : Value} {on : Bool} {N : List (Int × Int)} {S : List Touch} (hq : ClkAt w s p base) (h : CellsAt w p m sv on N S) (core : Int) {ta tb : TypeId}
    (ha : w.heap[a]? = some (.cells #[.pointer (some ⟨s, 0, none⟩)] ta (0, 0))) (hb : w.heap[b]? = some (.cells #[.int .i64 core] tb (0, 0))) :
    Calls Try.prog 66 #[.pointer (some ⟨a, 0, none⟩), .pointer (some ⟨b, 0, none⟩)] w fun e w' => e = .returned (.int .u64 (cwithin (nget (u64s base (IntKind.u64.wrap core)) N))) ∧ w.drew = w' := by
  have h0 := cl_of hq 0
  have h1 := cl_of hq 1
  have ca := cl_of ha 0
  have cb := cl_of hb 0
  go_enter Try.func66, Try.ntmps66
  go_wp2_with fail
  go_region_held3 (fun W => W.cell? ⟨s, 0, none⟩ = some (.pointer (some ⟨p, 0, none⟩)) ∧ W.cell? ⟨s, 1, none⟩ = some (.int .u64 base) ∧ W.cell? ⟨a, 0, none⟩ = some (.pointer (some ⟨s, 0, none⟩)) ∧ W.cell? ⟨b, 0, none⟩ = some (.int .i64 core)) (first | exact ⟨h0, h1, ca, cb⟩ | (simp only [*]; exact ⟨h0, h1, ca, cb⟩)) (first | (go_at_call 17; refine (peek_any (p := p) (m := m) (sv := sv) (on := on) (N := N) (S := S) (by first | exact h | exact h.drew) (u64s base (IntKind.u64.wrap core))).mono ?_; rintro e w' ⟨rfl, hst⟩; subst hst) | (go_at_call 65; refine (clk_within _ _ _).mono ?_; rintro e w' ⟨rfl, hst⟩; subst hst))
  rename_i hK _
  refine hK _ _ ?_
  go_wp2_with fail
  go_ret
  exact ⟨rfl, rfl⟩

set_option maxHeartbeats 1000000 in
theorem clk_last {w : World} {s p m : Nat} {base : Int} {sv : Value} {on : Bool} {N : List (Int × Int)} {S : List Touch} (hq : ClkAt w s p base) (h : CellsAt w p m sv on N S) (core : Int) (hc : chas core = true) :
    Calls Try.prog 47 #[.pointer (some ⟨s, 0, none⟩), .int .i64 core] w fun e w' => e = .returned (.int .u64 (cwithin (nget (u64s base core) N))) ∧ Fr (fun _ => False) w w' := by
  go_enter Try.func47, Try.ntmps47
  go_wp2_with fail
  refine (clk_has _ core).mono ?_
  rw [hc]
  rintro e w1 ⟨rfl, rfl⟩
  go_wp2_with fail
  refine (clk_last1 (s := s) (p := p) (m := m) (base := base) (sv := sv) (on := on) (N := N) (S := S) (hq.fr (((Fr.refl (fun _ => False) w).alloc _).alloc _) id) ((h.alloc _).alloc _) core ((hp_old _ _ (by simp)).trans (hp_new w _ rfl)) (hp_new _ _ (by simp))).mono ?_
  rw [u64_core hc]
  rintro e w2 ⟨rfl, rfl⟩
  go_wp2_with fail
  go_ret
  exact ⟨rfl, (((Fr.refl (fun _ => False) w).alloc _).alloc _).drew⟩

set_option maxHeartbeats 1000000 in
theorem clk_last_no (w : World) (s : Nat) (core : Int) (hc : chas core = false) :
    Calls Try.prog 47 #[.pointer (some ⟨s, 0, none⟩), .int .i64 core] w fun e w' => e = .returned (.int .u64 0) ∧ Fr (fun _ => False) w w' := by
  go_enter Try.func47, Try.ntmps47
  go_wp2_with fail
  refine (clk_has _ core).mono ?_
  rw [hc]
  rintro e w1 ⟨rfl, rfl⟩
  go_wp2_with fail
  go_ret
  exact ⟨rfl, ((Fr.refl (fun _ => False) w).alloc _).alloc _⟩

set_option maxHeartbeats 1000000 in
theorem clk_last_nil (w : World) (core : Int) :
    Calls Try.prog 47 #[.pointer none, .int .i64 core] w fun e w' => e = .returned (.int .u64 0) ∧ Fr (fun _ => False) w w' := by
  go_enter Try.func47, Try.ntmps47
  go_wp2_with fail
  go_ret
  exact ⟨rfl, ((Fr.refl (fun _ => False) w).alloc _).alloc _⟩

/-- The greatest of the first k cores. -/
def cmost (base : Int) (N : List (Int × Int)) : Nat → Int
  | 0 => 0
  | k + 1 => max (cmost base N k) (cwithin (nget (u64s base k) N))
theorem cmost_bd (base : Int) (N : List (Int × Int)) : ∀ k, 0 ≤ cmost base N k ∧ cmost base N k ≤ 4611686018427387904
  | 0 => by simp [cmost]
  | k + 1 => by have := cmost_bd base N k; have := cwithin_nn (nget (u64s base k) N); have := cwithin_le (nget (u64s base k) N); simp only [cmost]; omega

set_option maxHeartbeats 1000000 in
theorem clk_most {w : World} {s p m : Nat} {base : Int} {sv : Value} {on : Bool} {N : List (Int × Int)} {S : List Touch} (hq : ClkAt w s p base) (h : CellsAt w p m sv on N S) :
    Calls Try.prog 46 #[.pointer (some ⟨s, 0, none⟩)] w fun e w' => e = .returned (.int .u64 (cmost base N 8)) ∧ Fr (fun _ => False) w w' := by
  go_enter Try.func46, Try.ntmps46
  go_wp2_with fail
  go_loopw [2, 4] (fun v2 v4 wr => ∃ k : Nat, ∃ M : Int, k ≤ 8 ∧ v4 = .int .i64 k ∧ v2 = .int .u64 M ∧ Hid (M = cmost base N k) ∧ Fr (fun _ => False) w wr) (fun _ v4 _ => 8 - (intOf v4).toNat)
  case atStart => exact ⟨0, 0, by omega, rfl, rfl, Lib.hid rfl, Fr.refl _ _⟩
  case round =>
    obtain ⟨k, M, hk, rfl, rfl, HM, hf⟩ := hrel
    by_cases hlt : k < 8
    · have hmm : (if M < cwithin (nget (u64s base k) N) then cwithin (nget (u64s base k) N) else M) = cmost base N (k + 1) := by rw [HM.out]; simp only [cmost]; split <;> omega
      go_wp2_with fail
      refine (clk_last (hq.fr hf id) (h.fr hf fun _ _ => id) (k : Int) (by simp [chas]; omega)).mono ?_
      rintro e w2 ⟨rfl, hf2⟩
      go_wp2_with fail
      go_roundw
      case rel => exact ⟨k + 1, cmost base N (k + 1), by omega, by go_num, rfl, Lib.hid rfl, hf.trans hf2⟩
      case measure => simp [intOf]; omega
    · obtain rfl : k = 8 := by omega
      go_wp2_with fail
      go_ret
      exact ⟨by rw [HM.out]; rfl, hf⟩
end Go.Proofs.Ythmabnigdnbdkaa
