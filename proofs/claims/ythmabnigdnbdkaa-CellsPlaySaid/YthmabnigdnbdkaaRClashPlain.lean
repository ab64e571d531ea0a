/- The document's Clash and ours answer the same: the plain law. -/
import Derived.Test.YthmabnigdnbdkaaApartPlain
namespace Go.Proofs.Ythmabnigdnbdkaa
open Go.RowKit

/-- Two cores clash at a cell: as the document says it. -/
def rcl (S : List Touch) (a b c : Int) : Prop := ∃ x ∈ S, ∃ y ∈ S, x.core = a ∧ y.core = b ∧ x.cell = c ∧ y.cell = c ∧ (x.write = true ∨ y.write = true)
theorem lt_unique : ∀ {l m : List Int}, l.Pairwise (· < ·) → m.Pairwise (· < ·) → (∀ c, c ∈ l ↔ c ∈ m) → l = m
  | [], [], _, _, _ => rfl
  | [], y :: m, _, _, h => absurd ((h y).2 (by simp)) (by simp)
  | x :: l, [], _, _, h => absurd ((h x).1 (by simp)) (by simp)
  | x :: l, y :: m, hl, hm, h => by
    rw [List.pairwise_cons] at hl hm
    have hxy : x = y := by
      rcases List.mem_cons.1 ((h x).1 (by simp)) with e | e
      · exact e
      · rcases List.mem_cons.1 ((h y).2 (by simp)) with e' | e'
        · exact e'.symm
        · have h1 := hm.1 x e
          have h2 := hl.1 y e'
          omega
    subst hxy
    rw [lt_unique hl.2 hm.2 fun c => ?_]
    constructor
    · intro hc
      rcases List.mem_cons.1 ((h c).1 (by simp [hc])) with e | e
      · have := hl.1 c hc; omega
      · exact e
    · intro hc
      rcases List.mem_cons.1 ((h c).2 (by simp [hc])) with e | e
      · have := hm.1 c hc; omega
      · exact e
/-- The row while the touches are gone through. -/
structure RP (S : List Touch) (a b : Int) (j : Nat) (out : List Int) : Prop where
  srt : out.Pairwise (· < ·)
  mem : ∀ c, c ∈ out ↔ (∃ x ∈ S.take j, x.cell = c) ∧ rcl S a b c
theorem RP.start (S : List Touch) (a b : Int) : RP S a b 0 [] := ⟨by simp, by simp⟩
theorem take_mem {S : List Touch} {j : Nat} (h : j < S.length) (c : Int) : (∃ x ∈ S.take (j + 1), x.cell = c) ↔ (∃ x ∈ S.take j, x.cell = c) ∨ S[j].cell = c := by
  rw [take_snoc _ _ h]
  simp only [List.mem_append, List.mem_singleton]
  constructor
  · rintro ⟨x, hx | rfl, e⟩
    · exact .inl ⟨x, hx, e⟩
    · exact .inr e
  · rintro (⟨x, hx, e⟩ | e)
    · exact ⟨x, .inl hx, e⟩
    · exact ⟨_, .inr rfl, e⟩
theorem RP.has {S : List Touch} {a b : Int} {j : Nat} {out : List Int} (p : RP S a b j out) (h : j < S.length) (hin : S[j].cell ∈ out) : RP S a b (j + 1) out := by
  refine ⟨p.srt, fun c => ?_⟩
  rw [take_mem h, p.mem]
  constructor
  · rintro ⟨h1, h2⟩; exact ⟨.inl h1, h2⟩
  · rintro ⟨h1 | rfl, h2⟩
    · exact ⟨h1, h2⟩
    · exact (p.mem _).1 hin
theorem RP.no {S : List Touch} {a b : Int} {j : Nat} {out : List Int} (p : RP S a b j out) (h : j < S.length) (hn : ¬ rcl S a b S[j].cell) : RP S a b (j + 1) out := by
  refine ⟨p.srt, fun c => ?_⟩
  rw [take_mem h, p.mem]
  constructor
  · rintro ⟨h1, h2⟩; exact ⟨.inl h1, h2⟩
  · rintro ⟨h1 | rfl, h2⟩
    · exact ⟨h1, h2⟩
    · exact absurd h2 hn
theorem RP.ins {S : List Touch} {a b : Int} {j : Nat} {out : List Int} (p : RP S a b j out) (h : j < S.length) (hc : rcl S a b S[j].cell) (k : Nat) (h1 : ∀ x ∈ out.take k, x < S[j].cell) (h2 : ∀ x ∈ out.drop k, S[j].cell < x) :
    RP S a b (j + 1) (out.take k ++ [S[j].cell] ++ out.drop k) := by
  have hs := p.srt
  rw [← List.take_append_drop k out, List.pairwise_append] at hs
  refine ⟨?_, fun c => ?_⟩
  · rw [List.append_assoc, List.pairwise_append]
    refine ⟨hs.1, ?_, fun x hx y hy => ?_⟩
    · rw [List.singleton_append, List.pairwise_cons]
      exact ⟨h2, hs.2.1⟩
    · rcases List.mem_append.1 hy with hy | hy
      · rw [List.mem_singleton] at hy
        rw [hy]
        exact h1 x hx
      · exact hs.2.2 x hx y hy
  · rw [take_mem h]
    have e : c ∈ out.take k ++ [S[j].cell] ++ out.drop k ↔ c ∈ out ∨ S[j].cell = c := by
      conv => rhs; rw [← List.take_append_drop k out]
      simp only [List.mem_append, List.mem_singleton]
      constructor
      · rintro ((h | rfl) | h)
        · exact .inl (.inl h)
        · exact .inr rfl
        · exact .inl (.inr h)
      · rintro ((h | h) | h)
        · exact .inl (.inl h)
        · exact .inr h
        · exact .inl (.inr h.symm)
    rw [e, p.mem]
    constructor
    · rintro (⟨h3, h4⟩ | rfl)
      · exact ⟨.inl h3, h4⟩
      · exact ⟨.inr rfl, hc⟩
    · rintro ⟨h3 | h3, h4⟩
      · exact .inl ⟨h3, h4⟩
      · exact .inr h3

/-! What Clash of ours answers. -/
theorem agg1_none {a b : Int} (c : Int) (S : List Touch) (M : List (Int × Cnt)) (h : ∀ x ∈ S, x.cell ≠ c) : cget c (agg1 a b S M) = cget c M := by
  induction S generalizing M with
  | nil => rfl
  | cons x S ih =>
    have h1 := ih (add1 x a b M) (fun y hy => h y (by simp [hy]))
    simp only [agg1, List.foldl_cons] at h1 ⊢
    rw [h1]
    unfold add1
    rw [cget_put, if_neg (fun e => h x (by simp) e.symm)]
theorem agg1_nos {a : Int} (c : Int) (S : List Touch) (M : List (Int × Cnt)) : (cget c (agg1 a 0 S M)).s = (cget c M).s := by
  induction S generalizing M with
  | nil => rfl
  | cons x S ih =>
    have h1 := ih (add1 x a 0 M)
    simp only [agg1, List.foldl_cons] at h1 ⊢
    rw [h1]
    unfold add1
    rw [cget_put]
    split
    · rename_i e; subst e; simp
    · rfl
theorem agg1_nof {b : Int} (c : Int) (S : List Touch) (M : List (Int × Cnt)) : (cget c (agg1 0 b S M)).f = (cget c M).f := by
  induction S generalizing M with
  | nil => rfl
  | cons x S ih =>
    have h1 := ih (add1 x 0 b M)
    simp only [agg1, List.foldl_cons] at h1 ⊢
    rw [h1]
    unfold add1
    rw [cget_put]
    split
    · rename_i e; subst e; simp
    · rfl
theorem agg1_now {a b : Int} (c : Int) (S : List Touch) (M : List (Int × Cnt)) (h : ∀ x ∈ S, x.cell = c → x.write = false) : (cget c (agg1 a b S M)).w = (cget c M).w := by
  induction S generalizing M with
  | nil => rfl
  | cons x S ih =>
    have h1 := ih (add1 x a b M) (fun y hy => h y (by simp [hy]))
    simp only [agg1, List.foldl_cons] at h1 ⊢
    rw [h1]
    unfold add1
    rw [cget_put]
    split
    · rename_i e
      have := h x (by simp) e.symm
      subst e
      simp [this]
    · rfl
theorem ofc_mem {a : Int} {SW : List TW} {x : Touch} : x ∈ (ofc a SW).map Subtype.val ↔ x ∈ SW.map Subtype.val ∧ x.core = a := by
  simp only [ofc, List.mem_map, List.mem_filter, beq_iff_eq]
  constructor
  · rintro ⟨t, ⟨h1, h2⟩, rfl⟩; exact ⟨⟨t, h1, rfl⟩, h2⟩
  · rintro ⟨⟨t, h1, rfl⟩, h2⟩; exact ⟨t, ⟨h1, h2⟩, rfl⟩
theorem clash_rcl {a b c : Int} {SW : List TW} (hf : 0 < (cget c (cagg a b SW)).f) (hs : 0 < (cget c (cagg a b SW)).s) (hw : 0 < (cget c (cagg a b SW)).w) : rcl (SW.map Subtype.val) a b c := by
  have h0 : cget c [] = ⟨0, 0, 0⟩ := rfl
  unfold cagg at hf hs hw
  have hx : ∃ x ∈ (ofc a SW).map Subtype.val, x.cell = c := by
    apply Classical.byContradiction
    intro hn
    rw [agg1_nof, agg1_none c _ _ (fun x hx e => hn ⟨x, hx, e⟩), h0] at hf
    exact absurd hf (by decide)
  have hy : ∃ y ∈ (ofc b SW).map Subtype.val, y.cell = c := by
    apply Classical.byContradiction
    intro hn
    rw [agg1_none c _ _ (fun x hx e => hn ⟨x, hx, e⟩), agg1_nos, h0] at hs
    exact absurd hs (by decide)
  obtain ⟨x, hx1, hx2⟩ := hx
  obtain ⟨y, hy1, hy2⟩ := hy
  rw [ofc_mem] at hx1 hy1
  by_cases h1 : ∃ z ∈ (ofc a SW).map Subtype.val, z.cell = c ∧ z.write = true
  · obtain ⟨z, hz1, hz2, hz3⟩ := h1
    rw [ofc_mem] at hz1
    exact ⟨z, hz1.1, y, hy1.1, hz1.2, hy1.2, hz2, hy2, .inl hz3⟩
  · by_cases h2 : ∃ z ∈ (ofc b SW).map Subtype.val, z.cell = c ∧ z.write = true
    · obtain ⟨z, hz1, hz2, hz3⟩ := h2
      rw [ofc_mem] at hz1
      exact ⟨x, hx1.1, z, hz1.1, hx1.2, hz1.2, hx2, hz2, .inr hz3⟩
    · rw [agg1_now c _ _ (fun z hz e => by cases hzw : z.write with | false => rfl | true => exact absurd ⟨z, hz, e, hzw⟩ h2), agg1_now c _ _ (fun z hz e => by cases hzw : z.write with | false => rfl | true => exact absurd ⟨z, hz, e, hzw⟩ h1), h0] at hw
      exact absurd hw (by decide)
theorem cput_keys (k : Int) (v : Cnt) (M : List (Int × Cnt)) : ∀ c, c ∈ (cput k v M).map Prod.fst ↔ c = k ∨ c ∈ M.map Prod.fst := by
  induction M with
  | nil => intro c; simp [cput]
  | cons x l ih =>
    obtain ⟨a, u⟩ := x
    intro c
    by_cases h : k = a
    · subst h; simp [cput]
    · simp only [cput, h, if_false, List.map_cons, List.mem_cons, ih c]
      constructor
      · rintro (h | h | h) <;> simp [h]
      · rintro (h | h | h) <;> simp [h]
theorem cput_nodup {k : Int} {v : Cnt} {M : List (Int × Cnt)} (h : (M.map Prod.fst).Nodup) : ((cput k v M).map Prod.fst).Nodup := by
  induction M with
  | nil => simp [cput]
  | cons x l ih =>
    obtain ⟨a, u⟩ := x
    rw [List.map_cons, List.nodup_cons] at h
    by_cases hk : k = a
    · subst hk
      simp only [cput, if_true, List.map_cons, List.nodup_cons]
      exact h
    · simp only [cput, hk, if_false, List.map_cons, List.nodup_cons]
      refine ⟨fun hin => ?_, ih h.2⟩
      rcases (cput_keys k v l a).1 hin with e | e
      · exact hk e.symm
      · exact h.1 e
theorem agg1_nodup {a b : Int} (S : List Touch) {M : List (Int × Cnt)} (h : (M.map Prod.fst).Nodup) : ((agg1 a b S M).map Prod.fst).Nodup := by
  induction S generalizing M with
  | nil => exact h
  | cons x S ih => exact ih (cput_nodup h)
theorem RP.done {a b : Int} {SW : List TW} {out : List Int} (p : RP (SW.map Subtype.val) a b (SW.map Subtype.val).length out) :
    clashes (cagg a b SW) (((cagg a b SW).map Prod.fst).mergeSort (fun x y => decide (x ≤ y))) = out := by
  have hnd : ((cagg a b SW).map Prod.fst).Nodup := agg1_nodup _ (agg1_nodup _ (by simp))
  have hpm := List.mergeSort_perm ((cagg a b SW).map Prod.fst) (fun x y => decide (x ≤ y))
  have hle := List.pairwise_mergeSort (le := fun x y : Int => decide (x ≤ y)) (by intro x y z; simp; omega) (by intro x y; simp; omega) ((cagg a b SW).map Prod.fst)
  have hnd2 := hpm.nodup_iff.2 hnd
  have hlt : (((cagg a b SW).map Prod.fst).mergeSort (fun x y => decide (x ≤ y))).Pairwise (· < ·) := by
    refine List.Pairwise.imp₂ (R := fun x y => decide (x ≤ y) = true) (S := (· ≠ ·)) (fun x y h1 h2 => ?_) hle hnd2
    have : x ≤ y := by simpa using h1
    omega
  refine lt_unique (hlt.sublist List.filter_sublist) p.srt fun c => ?_
  rw [p.mem, List.take_length]
  unfold clashes
  rw [List.mem_filter]
  simp only [Bool.and_eq_true, decide_eq_true_eq]
  constructor
  · rintro ⟨_, h1, h2, h3⟩
    have hr := clash_rcl h1 h2 h3
    obtain ⟨x, hx, y, hy, _, _, e, _⟩ := hr
    exact ⟨⟨x, hx, e⟩, clash_rcl h1 h2 h3⟩
  · rintro ⟨_, x, hx, y, hy, cx, cy, ex, ey, hw⟩
    obtain ⟨x', hx', rfl⟩ := List.mem_map.1 hx
    obtain ⟨y', hy', rfl⟩ := List.mem_map.1 hy
    have := clash_has SW x' y' hx' hy' cx cy ex ey hw
    unfold clashes at this
    rw [List.mem_filter] at this
    simpa using this
end Go.Proofs.Ythmabnigdnbdkaa
