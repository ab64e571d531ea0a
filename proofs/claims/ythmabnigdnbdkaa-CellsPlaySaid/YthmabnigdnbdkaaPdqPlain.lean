/- Sorting: what a partition and a round of the sort do to a row, in plain words. -/
import Derived.Sort.AssemblyPlain
namespace Go.Proofs.Ythmabnigdnbdkaa
open Go Go.Sort

theorem ltI {x y : Int} : ltInt x y = false ↔ y ≤ x := by unfold ltInt; simp
theorem ltI' {x y : Int} : ltInt x y = true ↔ x < y := by unfold ltInt; simp

/-- A row under way: what lies ahead of a, and behind b, is in its place. -/
structure Pq (d0 : Array Int) (a0 b0 a b : Nat) (d : Array Int) : Prop where
  perm : PermIn a0 b0 d0 d
  l1 : a0 ≤ a
  l2 : a ≤ b
  l3 : b ≤ b0
  ord : ∀ i j, a0 ≤ i → i < j → j < b0 → (i < a ∨ b ≤ j) → d[i]! ≤ d[j]!
section
variable {d0 d d' : Array Int} {a0 b0 a b mid : Nat}
theorem Pq.size (h : Pq d0 a0 b0 a b d) : d.size = d0.size := h.perm.1
theorem Pq.start (h : a0 ≤ b0) : Pq d0 a0 b0 a0 b0 d0 := ⟨permIn_refl _ _ _, Nat.le_refl _, h, Nat.le_refl _, fun i j h1 h2 h3 h4 => by omega⟩
theorem Pq.below (h : Pq d0 a0 b0 a b d) (hz : b0 ≤ d0.size) (hb : Sort.Below ltInt a0 b0 d0) : Sort.Below ltInt a b d := by
  by_cases h0 : a = 0
  · exact .inl h0
  right
  intro i hi hib
  rw [ltI]
  by_cases ha : a = a0
  · subst ha
    rw [h.perm.2.1 (a - 1) (.inl (by omega))]
    rcases hb with hb | hb
    · omega
    · exact permIn_all _ _ a b0 (fun x => d0[a - 1]! ≤ x) hz h.perm (fun k h1 h2 => ltI.1 (hb k h1 h2)) i hi (by have := h.l3; omega)
  · have := h.l1
    have := h.l3
    exact h.ord (a - 1) i (by omega) (by omega) (by omega) (.inl (by omega))
theorem Pq.step (h : Pq d0 a0 b0 a b d) (hz : b0 ≤ d0.size) (hp : PermIn a b d d') : Pq d0 a0 b0 a b d' := by
  have h1 := h.l1
  have h2 := h.l2
  have h3 := h.l3
  have hs := h.size
  refine ⟨permIn_trans _ _ _ _ _ h.perm (permIn_mono _ _ a b a0 b0 h1 h3 (by omega) hp), h1, h2, h3, fun i j hi hij hj hc => ?_⟩
  have ho := fun k (hk : k < a ∨ b ≤ k) => hp.2.1 k hk
  by_cases hia : i < a
  · rw [ho i (.inl hia)]
    by_cases hj2 : j < a ∨ b ≤ j
    · rw [ho j hj2]
      exact h.ord i j hi hij hj hc
    · exact permIn_all d d' a b (fun x => d[i]! ≤ x) (by omega) hp (fun k k1 k2 => h.ord i k hi (by omega) (by omega) (.inl hia)) j (by omega) (by omega)
  · have hbj : b ≤ j := by omega
    rw [ho j (.inr hbj)]
    by_cases hib : b ≤ i
    · rw [ho i (.inr hib)]
      exact h.ord i j hi hij hj (.inr hbj)
    · exact permIn_all d d' a b (fun x => x ≤ d[j]!) (by omega) hp (fun k k1 k2 => h.ord k j (by omega) (by omega) hj (.inr hbj)) i (by omega) (by omega)
theorem Pq.done (h : Pq d0 a0 b0 a b d) (hs : SortedIn ltInt a b d) : PermIn a0 b0 d0 d ∧ SortedIn ltInt a0 b0 d := by
  refine ⟨h.perm, fun i j hi hij hj => ltI.2 ?_⟩
  by_cases hc : i < a ∨ b ≤ j
  · exact h.ord i j hi hij hj hc
  · exact ltI.1 (hs i j (by omega) hij (by omega))
/-- The left side of a pivot is in order. -/
theorem Pq.left_done (h : Pq d0 a0 b0 a b d) (hz : b0 ≤ d0.size) (m1 : a ≤ mid) (m2 : mid < b) (hl : ∀ i, a ≤ i → i < mid → d[i]! ≤ d[mid]!) (hr : ∀ i, mid < i → i < b → d[mid]! ≤ d[i]!) (hp : PermIn a mid d d') (hs : SortedIn ltInt a mid d') : Pq d0 a0 b0 (mid + 1) b d' := by
  have h1 := h.l1
  have h2 := h.l2
  have h3 := h.l3
  have hsz := h.size
  have h' := h.step hz (permIn_mono _ _ a mid a b (Nat.le_refl _) (by omega) (by omega) hp)
  have ho := fun k (hk : k < a ∨ mid ≤ k) => hp.2.1 k hk
  have hl' : ∀ i, a ≤ i → i < mid → d'[i]! ≤ d[mid]! := fun i i1 i2 => permIn_all d d' a mid (fun x => x ≤ d[mid]!) (by omega) hp (fun k k1 k2 => hl k k1 k2) i i1 i2
  refine ⟨h'.perm, by omega, by omega, h3, fun i j hi hij hj hc => ?_⟩
  by_cases hc2 : i < a ∨ b ≤ j
  · exact h'.ord i j hi hij hj hc2
  · by_cases hjm : j < mid
    · exact ltI.1 (hs i j (by omega) hij hjm)
    · by_cases him : i < mid
      · have hi2 := hl' i (by omega) him
        rw [ho j (.inr (by omega))]
        by_cases e : j = mid
        · rw [e]; exact hi2
        · have := hr j (by omega) (by omega)
          omega
      · obtain rfl : i = mid := by omega
        rw [ho i (.inr (by omega)), ho j (.inr (by omega))]
        exact hr j (by omega) (by omega)
/-- The right side of a pivot is in order. -/
theorem Pq.right_done (h : Pq d0 a0 b0 a b d) (hz : b0 ≤ d0.size) (m1 : a ≤ mid) (m2 : mid < b) (hl : ∀ i, a ≤ i → i < mid → d[i]! ≤ d[mid]!) (hr : ∀ i, mid < i → i < b → d[mid]! ≤ d[i]!) (hp : PermIn (mid + 1) b d d') (hs : SortedIn ltInt (mid + 1) b d') : Pq d0 a0 b0 a mid d' := by
  have h1 := h.l1
  have h2 := h.l2
  have h3 := h.l3
  have hsz := h.size
  have h' := h.step hz (permIn_mono _ _ (mid + 1) b a b (by omega) (Nat.le_refl _) (by omega) hp)
  have ho := fun k (hk : k < mid + 1 ∨ b ≤ k) => hp.2.1 k hk
  have hr' : ∀ i, mid < i → i < b → d[mid]! ≤ d'[i]! := fun i i1 i2 => permIn_all d d' (mid + 1) b (fun x => d[mid]! ≤ x) (by omega) hp (fun k k1 k2 => hr k (by omega) k2) i (by omega) i2
  refine ⟨h'.perm, h1, m1, by omega, fun i j hi hij hj hc => ?_⟩
  by_cases hc2 : i < a ∨ b ≤ j
  · exact h'.ord i j hi hij hj hc2
  · by_cases him : mid < i
    · exact ltI.1 (hs i j (by omega) hij (by omega))
    · by_cases hjm : j = mid
      · subst hjm
        rw [ho i (.inl (by omega)), ho j (.inl (by omega))]
        exact hl i (by omega) (by omega)
      · have hj2 := hr' j (by omega) (by omega)
        rw [ho i (.inl (by omega))]
        by_cases e : i = mid
        · rw [e]; exact hj2
        · have := hl i (by omega) (by omega)
          omega
/-- What is equal to the pivot is in its place. -/
theorem Pq.equal (h : Pq d0 a0 b0 a b d) (hz : b0 ≤ d0.size) {v : Int} (m1 : a < mid) (m2 : mid ≤ b) (hp : PermIn a b d d') (hv : ∀ i, a ≤ i → i < b → v ≤ d[i]!) (hl : ∀ i, a ≤ i → i < mid → d'[i]! ≤ v) (hr : ∀ i, mid ≤ i → i < b → v < d'[i]!) : Pq d0 a0 b0 mid b d' := by
  have h1 := h.l1
  have h3 := h.l3
  have hsz := h.size
  have h' := h.step hz hp
  have hv' : ∀ i, a ≤ i → i < b → v ≤ d'[i]! := fun i i1 i2 => permIn_all d d' a b (fun x => v ≤ x) (by omega) hp hv i i1 i2
  refine ⟨h'.perm, by omega, m2, h3, fun i j hi hij hj hc => ?_⟩
  by_cases hc2 : i < a ∨ b ≤ j
  · exact h'.ord i j hi hij hj hc2
  · have e1 := hl i (by omega) (by omega)
    have e2 := hv' j (by omega) (by omega)
    omega
end

/-- A partition under way: P holds of what lies ahead of i, and of nothing that lies behind j. -/
structure Prt (P : Int → Prop) (a b : Nat) (d1 : Array Int) (i j : Nat) (D : Array Int) : Prop where
  perm : PermIn (a + 1) b d1 D
  ai : a + 1 ≤ i
  ij : i ≤ j + 1
  jb : j < b
  lo : ∀ k, a < k → k < i → P D[k]!
  hi : ∀ k, j < k → k < b → ¬ P D[k]!
section
variable {P : Int → Prop} {a b i j : Nat} {d1 D : Array Int}
theorem Prt.size (h : Prt P a b d1 i j D) : D.size = d1.size := h.perm.1
theorem Prt.piv (h : Prt P a b d1 i j D) : D[a]! = d1[a]! := h.perm.2.1 a (.inl (by omega))
theorem Prt.start (hab : a + 1 < b) : Prt P a b d1 (a + 1) (b - 1) d1 := ⟨permIn_refl _ _ _, Nat.le_refl _, by omega, by omega, fun k h1 h2 => by omega, fun k h1 h2 => by omega⟩
theorem Prt.up (h : Prt P a b d1 i j D) (hij : i ≤ j) (hp : P D[i]!) : Prt P a b d1 (i + 1) j D :=
  ⟨h.perm, by have := h.ai; omega, by omega, h.jb, fun k h1 h2 => by
    by_cases e : k = i
    · rw [e]; exact hp
    · exact h.lo k h1 (by omega), h.hi⟩
theorem Prt.down (h : Prt P a b d1 i j D) (hij : i ≤ j) (hp : ¬ P D[j]!) : Prt P a b d1 i (j - 1) D :=
  ⟨h.perm, h.ai, by omega, by have := h.jb; omega, h.lo, fun k h1 h2 => by
    have := h.ai
    by_cases e : k = j
    · rw [e]; exact hp
    · exact h.hi k (by omega) h2⟩
theorem Prt.lt (h : Prt P a b d1 i j D) (hij : i ≤ j) (hi : ¬ P D[i]!) (hj : P D[j]!) : i < j := by
  rcases Nat.lt_or_ge i j with e | e
  · exact e
  · obtain rfl : i = j := by omega
    exact absurd hj hi
theorem Prt.swap (h : Prt P a b d1 i j D) (hz : b ≤ d1.size) (hij : i < j) (hi : ¬ P D[i]!) (hj : P D[j]!) : Prt P a b d1 (i + 1) (j - 1) (swp D i j) := by
  have h1 := h.ai
  have h2 := h.jb
  have hs := h.size
  refine ⟨permIn_trans _ _ _ _ _ h.perm (swp_permIn D (a + 1) b i j h1 (by omega) (by omega) h2 (by omega)), by omega, by omega, by omega, fun k k1 k2 => ?_, fun k k1 k2 => ?_⟩
  · by_cases e : k = i
    · rw [e, swp_left D i j (by omega) (by omega)]; exact hj
    · rw [swp_other D i j k e (by omega)]; exact h.lo k k1 (by omega)
  · by_cases e : k = j
    · rw [e, swp_right D i j (by omega)]; exact hi
    · rw [swp_other D i j k (by omega) e]; exact h.hi k (by omega) k2
/-- The partition's end, round a pivot. -/
theorem Prt.fin {d : Array Int} {p : Nat} (h : Prt (fun x => x < d1[a]!) a b d1 i j D) (hz : b ≤ d1.size) (hij : j < i) (hd : d1 = swp d a p) (hp : a ≤ p) (hpb : p < b) :
    a ≤ j ∧ j < b ∧ PermIn a b d (swp D j a) ∧ (∀ k, a ≤ k → k < j → (swp D j a)[k]! ≤ (swp D j a)[j]!) ∧ (∀ k, j < k → k < b → (swp D j a)[j]! ≤ (swp D j a)[k]!) := by
  have h1 := h.ai
  have h2 := h.jb
  have h3 := h.ij
  have hs := h.size
  have hpv := h.piv
  obtain rfl : i = j + 1 := by omega
  have hds : d1.size = d.size := by rw [hd]; exact size_swp _ _ _
  have hP : PermIn a b d D := permIn_trans _ _ _ _ _ (by rw [hd]; exact swp_permIn d a b a p (Nat.le_refl _) (by omega) hp hpb (by omega)) (permIn_mono _ _ (a + 1) b a b (by omega) (Nat.le_refl _) hz h.perm)
  refine ⟨by omega, h2, permIn_trans _ _ _ _ _ hP (swp_permIn D a b j a (by omega) h2 (Nat.le_refl _) (by omega) (by omega)), fun k k1 k2 => ?_, fun k k1 k2 => ?_⟩
  · rw [swp_left D j a (by omega) (by omega), hpv]
    by_cases e : k = a
    · rw [e, swp_right D j a (by omega)]
      have := h.lo j (by omega) (by omega)
      omega
    · rw [swp_other D j a k (by omega) e]
      have := h.lo k (by omega) (by omega)
      omega
  · have hk := h.hi k k1 k2
    rw [swp_other D j a k (by omega) (by omega)]
    have e2 : (swp D j a)[j]! = D[a]! := by
      by_cases e : j = a
      · subst e; exact swp_right D j j (by omega)
      · exact swp_left D j a (by omega) e
    rw [e2, hpv]
    omega
/-- The partition's end, where it parts off what is equal. -/
theorem Prt.fin_eq {d : Array Int} {p : Nat} (h : Prt (fun x => x ≤ d1[a]!) a b d1 i j D) (hz : b ≤ d1.size) (hij : j < i) (hd : d1 = swp d a p) (hp : a ≤ p) (hpb : p < b) :
    a < i ∧ i ≤ b ∧ PermIn a b d D ∧ (∀ k, a ≤ k → k < i → D[k]! ≤ d[p]!) ∧ (∀ k, i ≤ k → k < b → d[p]! < D[k]!) := by
  have h1 := h.ai
  have h2 := h.jb
  have h3 := h.ij
  have hs := h.size
  have hpv := h.piv
  obtain rfl : i = j + 1 := by omega
  have hds : d1.size = d.size := by rw [hd]; exact size_swp _ _ _
  have hP : PermIn a b d D := permIn_trans _ _ _ _ _ (by rw [hd]; exact swp_permIn d a b a p (Nat.le_refl _) (by omega) hp hpb (by omega)) (permIn_mono _ _ (a + 1) b a b (by omega) (Nat.le_refl _) hz h.perm)
  have e2 : d1[a]! = d[p]! := by
    rw [hd]
    by_cases e : a = p
    · subst e; exact swp_right d a a (by omega)
    · exact swp_left d a p (by omega) e
  refine ⟨by omega, by omega, hP, fun k k1 k2 => ?_, fun k k1 k2 => ?_⟩
  · rw [← e2]
    by_cases e : k = a
    · rw [e, hpv]; exact Int.le_refl _
    · exact h.lo k (by omega) k2
  · have := h.hi k (by omega) k2
    rw [← e2]
    omega
end
end Go.Proofs.Ythmabnigdnbdkaa
