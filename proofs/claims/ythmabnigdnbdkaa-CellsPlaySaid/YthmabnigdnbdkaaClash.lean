/- package cells: Clash: how many accesses of two cores each cell had; the closure that counts, the iterator over a core's accesses. -/
import Derived.Test.YthmabnigdnbdkaaCells
import Derived.Test.YthmabnigdnbdkaaSortedU
import Derived.Test.YthmabnigdnbdkaaBase2
namespace Go.Proofs.Ythmabnigdnbdkaa
open Go.RowKit Go.Shelf Go.Maps
attribute [local go_sem] Oper.semAt_some
set_option maxRecDepth 20000

structure Cnt where
  f : Int
  s : Int
  w : Int
def cval (c : Cnt) : Value := .agg #[.int .i64 c.f, .int .i64 c.s, .int .i64 c.w]
def cget (k : Int) : List (Int × Cnt) → Cnt
  | [] => ⟨0, 0, 0⟩
  | (a, v) :: l => if k = a then v else cget k l
def cput (k : Int) (v : Cnt) : List (Int × Cnt) → List (Int × Cnt)
  | [] => [(k, v)]
  | (a, u) :: l => if k = a then (a, v) :: l else (a, u) :: cput k v l
def cnts (M : List (Int × Cnt)) : List (Int × Value) := M.map fun x => (x.1, cval x.2)
theorem cget_put (k j : Int) (v : Cnt) (M : List (Int × Cnt)) : cget j (cput k v M) = if j = k then v else cget j M := by
  induction M with
  | nil => simp [cput, cget]
  | cons x l ih =>
    obtain ⟨a, u⟩ := x
    unfold cput
    by_cases h : k = a
    · subst h
      by_cases hj : j = k <;> simp [cget, hj]
    · simp only [h, if_false, cget, ih]
      by_cases hj : j = a
      · subst hj
        simp [show ¬ j = k from fun e => h e.symm]
      · simp [hj]
theorem mget_cnts (k : Int) (M : List (Int × Cnt)) : (mget k (cnts M)).getD (cval ⟨0, 0, 0⟩) = cval (cget k M) := by
  induction M with
  | nil => rfl
  | cons x l ih =>
    obtain ⟨a, u⟩ := x
    simp only [cnts, List.map_cons, mget, cget] at ih ⊢
    by_cases h : k = a
    · simp [h]
    · simp only [h, if_false]; exact ih
theorem mput_cnts (k : Int) (v : Cnt) (M : List (Int × Cnt)) : mput k (cval v) (cnts M) = cnts (cput k v M) := by
  induction M with
  | nil => rfl
  | cons x l ih =>
    obtain ⟨a, u⟩ := x
    simp only [cnts, List.map_cons, mput, cput] at ih ⊢
    by_cases h : k = a
    · simp [h]
    · simp only [h, if_false, List.map_cons, ih]
theorem cput_length (k : Int) (v : Cnt) (M : List (Int × Cnt)) : (cput k v M).length ≤ M.length + 1 := by
  induction M with
  | nil => simp [cput]
  | cons x l ih =>
    obtain ⟨a, u⟩ := x
    unfold cput
    split <;> simp
    omega

/-- One access counted. -/
def add1 (x : Touch) (a b : Int) (M : List (Int × Cnt)) : List (Int × Cnt) :=
  cput x.cell ⟨(cget x.cell M).f + a, (cget x.cell M).s + b, (cget x.cell M).w + (if x.write then 1 else 0)⟩ M
/-- Counts below n. -/
def CLt (n : Int) (M : List (Int × Cnt)) : Prop := ∀ k, 0 ≤ (cget k M).f ∧ (cget k M).f ≤ n ∧ 0 ≤ (cget k M).s ∧ (cget k M).s ≤ n ∧ 0 ≤ (cget k M).w ∧ (cget k M).w ≤ n
theorem CLt.add {n : Int} {M : List (Int × Cnt)} (h : CLt n M) (x : Touch) {a b : Int} (ha : 0 ≤ a ∧ a ≤ 1) (hb : 0 ≤ b ∧ b ≤ 1) : CLt (n + 1) (add1 x a b M) := by
  intro k
  have h1 := h k
  have h2 := h x.cell
  unfold add1
  rw [cget_put]
  split
  · have : (0 : Int) ≤ (if x.write then 1 else 0) ∧ (if x.write then (1 : Int) else 0) ≤ 1 := by split <;> omega
    refine ⟨?_, ?_, ?_, ?_, ?_, ?_⟩ <;> dsimp only <;> omega
  · omega

theorem zero_count (w : World) : (zeroValue 93).run Try.prog w = .ok (cval ⟨0, 0, 0⟩) w := by kernel_rfl
theorem MapS.look_cnt {W : World} {m : Nat} {M : List (Int × Cnt)} (h : MapS W m .u64 (cnts M)) (k : Int) :
    (Instr.lookup 89 (.map (some m)) (.int .u64 k) false).run Try.prog W = .ok (.agg #[.int .i64 (cget k M).f, .int .i64 (cget k M).s, .int .i64 (cget k M).w]) W := by
  have := h.mapAt.look (t := 89) Try.underlying89 Try.underlying30 (zero_count W) k
  rw [mget_cnts] at this
  exact this

theorem frm_alloc {S : Nat → Prop} {a w : World} (h : Fr S a w) (o : Obj) : Fr S a (w.alloc o) := h.trans ⟨rfl, rfl, rfl, by simp, fun k hk _ => hp_old w o hk⟩
set_option maxHeartbeats 2000000 in
theorem addc_any {W : World} {mm mb : Nat} {M : List (Int × Cnt)} (hb : W.heap[mb]? = some (.cells #[.map (some mm)] 89 (0, 0))) (hm : MapS W mm .u64 (cnts M))
    (x : Touch) (hx : (Lit.int .u64 x.cell).wf = true) (a b n : Int) (ha : 0 ≤ a ∧ a ≤ 1) (hbb : 0 ≤ b ∧ b ≤ 1) (hC : CLt n M) (hn : n ≤ 1000000) :
    Calls Try.prog 52 #[.agg #[.int .i64 x.core, .int .u64 x.cell, .bool x.write], .int .i64 a, .int .i64 b, .pointer (some ⟨mb, 0, none⟩)] W fun e w' => e = .returned (.tuple #[]) ∧ MapS w' mm .u64 (cnts (add1 x a b M)) ∧ Fr (· = mm) W w' := by
  obtain ⟨xc, xl, xw⟩ := x
  have HX := Lib.hid hx
  clear hx
  have hcb : W.cell? ⟨mb, 0, none⟩ = some (.map (some mm)) := cl_of hb 0
  have hlb := blk_lt hb
  have h1 := hC xl
  have HA : Hid (add1 ⟨xc, xl, xw⟩ a b M = cput xl ⟨(cget xl M).f + a, (cget xl M).s + b, (cget xl M).w + (if xw then 1 else 0)⟩ M) := rfl
  have hm1 := hm.of_block (hp_old W (.cells #[.int .i64 xc, .int .u64 xl, .bool xw] 91) hm.lt)
  have L1 := hm1.look_cnt xl
  clear hC
  generalize (cget xl M).f = F at *
  generalize (cget xl M).s = S at *
  generalize (cget xl M).w = Wr at *
  obtain ⟨f0, f1, s0, s1, w0, w1⟩ := h1
  obtain ⟨a0, a1⟩ := ha
  obtain ⟨b0, b1⟩ := hbb
  clear hb
  have HM := Lib.hid hm
  clear hm hm1
  cases xw with
  | true =>
    have hm2 := (HM.out.of_block (hp_old W (.cells #[.int .i64 xc, .int .u64 xl, .bool true] 91) HM.out.lt)).of_block (hp_old (W.alloc (.cells #[.int .i64 xc, .int .u64 xl, .bool true] 91)) (.cells #[.int .i64 (F + a), .int .i64 (S + b), .int .i64 (Wr + 1)] 93) (by simp; have := HM.out.lt; omega))
    obtain ⟨W', hr, hm', hg⟩ := hm2.put (t := 89) Try.underlying89 Try.underlying30 xl HX.out (.agg #[.int .i64 (F + a), .int .i64 (S + b), .int .i64 (Wr + 1)])
    have hcv : mput xl (.agg #[.int .i64 (F + a), .int .i64 (S + b), .int .i64 (Wr + 1)]) (cnts M) = cnts (add1 ⟨xc, xl, true⟩ a b M) := by
      rw [HA.out]
      exact mput_cnts xl ⟨F + a, S + b, Wr + 1⟩ M
    rw [hcv] at hm'
    have HM' := Lib.hid hm'
    have HG := Lib.hid hg
    clear hm' hg hcv hm2
    go_enter Try.func52, Try.ntmps52
    go_wp2_with fail
    go_end0
    refine ⟨rfl, HM'.out, ((frm_alloc (frm_alloc (Fr.refl _ W) _) _).trans ((Fr.of_grownBy HG.out).weak fun k _ e => by simpa using e))⟩
  | false =>
    have hm2 := (HM.out.of_block (hp_old W (.cells #[.int .i64 xc, .int .u64 xl, .bool false] 91) HM.out.lt)).of_block (hp_old (W.alloc (.cells #[.int .i64 xc, .int .u64 xl, .bool false] 91)) (.cells #[.int .i64 (F + a), .int .i64 (S + b), .int .i64 (Wr)] 93) (by simp; have := HM.out.lt; omega))
    obtain ⟨W', hr, hm', hg⟩ := hm2.put (t := 89) Try.underlying89 Try.underlying30 xl HX.out (.agg #[.int .i64 (F + a), .int .i64 (S + b), .int .i64 (Wr)])
    have hcv : mput xl (.agg #[.int .i64 (F + a), .int .i64 (S + b), .int .i64 (Wr)]) (cnts M) = cnts (add1 ⟨xc, xl, false⟩ a b M) := by
      rw [HA.out]
      simp only [Bool.false_eq_true, if_false, Int.add_zero]; exact mput_cnts xl ⟨F + a, S + b, Wr⟩ M
    rw [hcv] at hm'
    have HM' := Lib.hid hm'
    have HG := Lib.hid hg
    clear hm' hg hcv hm2
    go_enter Try.func52, Try.ntmps52
    go_wp2_with fail
    go_end0
    refine ⟨rfl, HM'.out, ((frm_alloc (frm_alloc (Fr.refl _ W) _) _).trans ((Fr.of_grownBy HG.out).weak fun k _ e => by simpa using e))⟩
end Go.Proofs.Ythmabnigdnbdkaa
