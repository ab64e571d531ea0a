/- Where cores clash, in plain words: accesses of one cell. -/
import Derived.Test.YthmabnigdnbdkaaCellsOn
namespace Go.Proofs.Ythmabnigdnbdkaa
open Go.RowKit

theorem cput_cput (c : Int) (d d' : Cnt) (M : List (Int × Cnt)) : cput c d (cput c d' M) = cput c d M := by
  induction M with
  | nil => simp [cput]
  | cons x l ih =>
    obtain ⟨a, u⟩ := x
    by_cases h : c = a
    · simp [cput, h]
    · simp [cput, h, ih]
/-- Accesses of one cell: one entry. -/
theorem agg1_cell {c a b : Int} : ∀ (S : List Touch) (M : List (Int × Cnt)), (∀ t ∈ S, t.cell = c) → S ≠ [] →
    ∃ d, agg1 a b S M = cput c d M ∧ d.f = (cget c M).f + a * S.length ∧ d.s = (cget c M).s + b * S.length ∧ ((∀ t ∈ S, t.write = false) → d.w = (cget c M).w) ∧ ((∃ t ∈ S, t.write = true) → (cget c M).w < d.w) ∧ (cget c M).w ≤ d.w
  | [], _, _, h => absurd rfl h
  | x :: S, M, hc, _ => by
    have hx : x.cell = c := hc x (by simp)
    have hA : agg1 a b (x :: S) M = agg1 a b S (cput c ⟨(cget c M).f + a, (cget c M).s + b, (cget c M).w + (if x.write then 1 else 0)⟩ M) := by
      simp only [agg1, List.foldl_cons, add1, hx]
    by_cases hS : S = []
    · subst hS
      refine ⟨_, hA.trans rfl, by simp, by simp, fun h => ?_, fun h => ?_, ?_⟩
      · have := h x (by simp); simp [this]
      · obtain ⟨t, ht, hw⟩ := h
        simp at ht
        subst ht
        simp [hw]; omega
      · dsimp only; split <;> omega
    · obtain ⟨d, h1, h2, h3, h4, h5, h6⟩ := agg1_cell S (cput c ⟨(cget c M).f + a, (cget c M).s + b, (cget c M).w + (if x.write then 1 else 0)⟩ M) (fun t ht => hc t (by simp [ht])) hS
      rw [cget_put, if_pos rfl] at h2 h3 h4 h5 h6
      refine ⟨d, by rw [hA, h1, cput_cput], ?_, ?_, fun h => ?_, fun h => ?_, ?_⟩
      · rw [h2]; simp only [List.length_cons]; push_cast; rw [Int.mul_add]; omega
      · rw [h3]; simp only [List.length_cons]; push_cast; rw [Int.mul_add]; omega
      · rw [h4 (fun t ht => h t (by simp [ht]))]
        have := h x (by simp); simp [this]
      · obtain ⟨t, ht, hw⟩ := h
        rcases List.mem_cons.1 ht with rfl | ht
        · rw [hw] at h6; simp at h6; omega
        · have := h5 ⟨t, ht, hw⟩
          dsimp only at this
          split at this <;> omega
      · dsimp only at h6
        split at h6 <;> omega

/-- Two cores, each at one cell. -/
theorem cagg_two {a b ca cb : Int} (SW : List TW) (h1 : ∀ t ∈ SW, t.1.core = a → t.1.cell = ca) (h2 : ∀ t ∈ SW, t.1.core = b → t.1.cell = cb) : (cagg a b SW).length ≤ 2 := by
  have hA : ∀ t ∈ (ofc a SW).map Subtype.val, t.cell = ca := by
    intro t ht
    obtain ⟨x, hx, rfl⟩ := List.mem_map.1 ht
    simp only [ofc, List.mem_filter, beq_iff_eq] at hx
    exact h1 x hx.1 hx.2
  have hB : ∀ t ∈ (ofc b SW).map Subtype.val, t.cell = cb := by
    intro t ht
    obtain ⟨x, hx, rfl⟩ := List.mem_map.1 ht
    simp only [ofc, List.mem_filter, beq_iff_eq] at hx
    exact h2 x hx.1 hx.2
  have l1 : (agg1 1 0 ((ofc a SW).map Subtype.val) []).length ≤ 1 := by
    by_cases e : (ofc a SW).map Subtype.val = []
    · rw [e]; simp [agg1]
    · obtain ⟨d, hd, _⟩ := agg1_cell (a := 1) (b := 0) _ [] hA e
      rw [hd]; simp [cput]
  unfold cagg
  by_cases e : (ofc b SW).map Subtype.val = []
  · rw [e]; simp only [agg1, List.foldl_nil] at l1 ⊢; omega
  · obtain ⟨d, hd, _⟩ := agg1_cell (a := 0) (b := 1) _ (agg1 1 0 ((ofc a SW).map Subtype.val) []) hB e
    rw [hd]
    have := cput_length cb d (agg1 1 0 ((ofc a SW).map Subtype.val) [])
    omega
theorem clashes_nil {M : List (Int × Cnt)} {ks : List Int} (h : ∀ k, ¬ (0 < (cget k M).f ∧ 0 < (cget k M).s ∧ 0 < (cget k M).w)) : clashes M ks = [] := by
  unfold clashes
  rw [List.filter_eq_nil_iff]
  intro k _
  simp only [Bool.and_eq_true, decide_eq_true_eq]
  intro ⟨x, y, z⟩
  exact h k ⟨x, y, z⟩
/-- Cores that touch cells of their own don't clash. -/
theorem apart_two {a b ca cb : Int} (SW : List TW) (hne : ca ≠ cb) (h1 : ∀ t ∈ SW, t.1.core = a → t.1.cell = ca) (h2 : ∀ t ∈ SW, t.1.core = b → t.1.cell = cb) (ks : List Int) : clashes (cagg a b SW) ks = [] := by
  have hA : ∀ t ∈ (ofc a SW).map Subtype.val, t.cell = ca := by
    intro t ht
    obtain ⟨x, hx, rfl⟩ := List.mem_map.1 ht
    simp only [ofc, List.mem_filter, beq_iff_eq] at hx
    exact h1 x hx.1 hx.2
  have hB : ∀ t ∈ (ofc b SW).map Subtype.val, t.cell = cb := by
    intro t ht
    obtain ⟨x, hx, rfl⟩ := List.mem_map.1 ht
    simp only [ofc, List.mem_filter, beq_iff_eq] at hx
    exact h2 x hx.1 hx.2
  have hM1 : ∀ k, (cget k (agg1 1 0 ((ofc a SW).map Subtype.val) [])).s = 0 ∧ (k ≠ ca → (cget k (agg1 1 0 ((ofc a SW).map Subtype.val) [])).f = 0) := by
    intro k
    by_cases e : (ofc a SW).map Subtype.val = []
    · rw [e]; simp [agg1, cget]
    · obtain ⟨d, hd, _, hs, _⟩ := agg1_cell (a := 1) (b := 0) _ [] hA e
      rw [hd, cget_put]
      by_cases hk : k = ca
      · rw [if_pos hk]; exact ⟨by rw [hs]; simp [cget], fun h => absurd hk h⟩
      · rw [if_neg hk]; simp [cget]
  refine clashes_nil fun k => ?_
  unfold cagg
  by_cases e : (ofc b SW).map Subtype.val = []
  · rw [e]
    have := (hM1 k).1
    simp only [agg1, List.foldl_nil] at this ⊢
    omega
  · obtain ⟨d, hd, hf, _⟩ := agg1_cell (a := 0) (b := 1) _ (agg1 1 0 ((ofc a SW).map Subtype.val) []) hB e
    rw [hd, cget_put]
    by_cases hk : k = cb
    · rw [if_pos hk]
      have := (hM1 cb).2 (fun e => hne e.symm)
      omega
    · rw [if_neg hk]
      have := (hM1 k).1
      omega
/-- Cores that only read don't clash. -/
theorem apart_read {a b c : Int} (SW : List TW) (h1 : ∀ t ∈ SW, t.1.cell = c) (h2 : ∀ t ∈ SW, t.1.write = false) (ks : List Int) : clashes (cagg a b SW) ks = [] := by
  have hC : ∀ x, ∀ t ∈ (ofc x SW).map Subtype.val, t.cell = c ∧ t.write = false := by
    intro x t ht
    obtain ⟨y, hy, rfl⟩ := List.mem_map.1 ht
    simp only [ofc, List.mem_filter] at hy
    exact ⟨h1 y hy.1, h2 y hy.1⟩
  have hM1 : ∀ k, (cget k (agg1 1 0 ((ofc a SW).map Subtype.val) [])).w = 0 := by
    intro k
    by_cases e : (ofc a SW).map Subtype.val = []
    · rw [e]; simp [agg1, cget]
    · obtain ⟨d, hd, _, _, hw, _⟩ := agg1_cell (a := 1) (b := 0) _ [] (fun t ht => (hC a t ht).1) e
      rw [hd, cget_put]
      by_cases hk : k = c
      · rw [if_pos hk, hw (fun t ht => (hC a t ht).2)]; simp [cget]
      · rw [if_neg hk]; simp [cget]
  refine clashes_nil fun k => ?_
  unfold cagg
  by_cases e : (ofc b SW).map Subtype.val = []
  · rw [e]
    have := hM1 k
    simp only [agg1, List.foldl_nil] at this ⊢
    omega
  · obtain ⟨d, hd, _, _, hw, _⟩ := agg1_cell (a := 0) (b := 1) _ (agg1 1 0 ((ofc a SW).map Subtype.val) []) (fun t ht => (hC b t ht).1) e
    rw [hd, cget_put]
    by_cases hk : k = c
    · rw [if_pos hk, hw (fun t ht => (hC b t ht).2), hM1 c]; omega
    · rw [if_neg hk, hM1 k]; omega
/-- One that reads, one that writes, the same cell. -/
theorem clash_one {a b c : Int} (SW : List TW) (h1 : ∀ t ∈ SW, t.1.cell = c) (ha : ∃ t ∈ SW, t.1.core = a) (hb : ∃ t ∈ SW, t.1.core = b ∧ t.1.write = true) : clashes (cagg a b SW) (((cagg a b SW).map Prod.fst).mergeSort (fun x y => decide (x ≤ y))) = [c] := by
  have hC : ∀ x, ∀ t ∈ (ofc x SW).map Subtype.val, t.cell = c := by
    intro x t ht
    obtain ⟨y, hy, rfl⟩ := List.mem_map.1 ht
    simp only [ofc, List.mem_filter] at hy
    exact h1 y hy.1
  have ea : (ofc a SW).map Subtype.val ≠ [] := by
    obtain ⟨t, ht, hc⟩ := ha
    intro e
    have : t.1 ∈ (ofc a SW).map Subtype.val := List.mem_map.2 ⟨t, by simp [ofc, ht, hc], rfl⟩
    rw [e] at this
    cases this
  obtain ⟨t, ht, hc, hw⟩ := hb
  have htb : t.1 ∈ (ofc b SW).map Subtype.val := List.mem_map.2 ⟨t, by simp [ofc, ht, hc], rfl⟩
  have eb : (ofc b SW).map Subtype.val ≠ [] := by
    intro e
    rw [e] at htb
    cases htb
  obtain ⟨d, hd, hf, hs, _, _, hww⟩ := agg1_cell (a := 1) (b := 0) _ [] (hC a) ea
  obtain ⟨d', hd', hf', hs', _, hw', _⟩ := agg1_cell (a := 0) (b := 1) _ (agg1 1 0 ((ofc a SW).map Subtype.val) []) (hC b) eb
  have hM : cagg a b SW = [(c, d')] := by
    unfold cagg
    rw [hd', hd, cput_cput]
    rfl
  rw [hd, cget_put, if_pos rfl] at hf' hs' hw'
  have hwx := hw' ⟨_, htb, hw⟩
  have hla := List.length_pos_iff.2 ea
  have hlb := List.length_pos_iff.2 eb
  simp only [cget] at hf hs hww
  rw [hM]
  rw [show ([(c, d')] : List (Int × Cnt)).map Prod.fst = [c] from rfl, List.mergeSort_singleton]
  simp only [clashes, List.filter_cons, cget, if_true, List.filter_nil]
  rw [if_pos]
  simp only [Bool.and_eq_true, decide_eq_true_eq]
  refine ⟨?_, ?_, ?_⟩ <;> omega
end Go.Proofs.Ythmabnigdnbdkaa
