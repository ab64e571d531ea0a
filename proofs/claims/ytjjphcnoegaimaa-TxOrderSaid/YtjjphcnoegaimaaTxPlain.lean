/- What a transaction has written, by sectors rising: plain laws; a map that is it. -/
import Derived.Test.YtjjphcnoegaimaaMapS
namespace Go.Proofs.Ytjjphcnoegaimaa
open Go.RowKit Go.Maps
set_option linter.unusedVariables false

/-- What was written to sectors, rising. -/
abbrev Wl := List (Int × ByteArray)
def pget (k : Int) : Wl → Option ByteArray
  | [] => none
  | (a, b) :: M => if k = a then some b else pget k M
def pins (k : Int) (b : ByteArray) : Wl → Wl
  | [] => [(k, b)]
  | (a, c) :: M => if a < k then (a, c) :: pins k b M else if a = k then (k, b) :: M else (k, b) :: (a, c) :: M
def Rising (M : Wl) : Prop := M.Pairwise (fun x y => x.1 < y.1)
theorem Rising.tail {x : Int × ByteArray} {M : Wl} (h : Rising (x :: M)) : Rising M := (List.pairwise_cons.1 h).2
theorem pget_mem {k : Int} {b : ByteArray} : ∀ {M : Wl}, pget k M = some b → (k, b) ∈ M
  | [], h => by cases h
  | (a, c) :: M, h => by
    unfold pget at h
    split at h
    · rename_i e
      cases h
      subst e
      exact List.mem_cons_self
    · exact List.mem_cons_of_mem _ (pget_mem h)
theorem mem_pget {k : Int} {b : ByteArray} : ∀ {M : Wl}, Rising M → (k, b) ∈ M → pget k M = some b
  | [], _, h => by cases h
  | (a, c) :: M, hr, h => by
    unfold pget
    rcases List.mem_cons.1 h with e | h1
    · cases e; simp
    · have := (List.pairwise_cons.1 hr).1 _ h1
      dsimp only at this
      rw [if_neg (by omega)]
      exact mem_pget hr.tail h1
theorem pget_none {k : Int} {M : Wl} : pget k M = none ↔ k ∉ M.map Prod.fst := by
  induction M with
  | nil => simp [pget]
  | cons x M ih =>
    obtain ⟨a, c⟩ := x
    unfold pget
    split
    · rename_i e; subst e; simp
    · rename_i e; rw [ih]; simp [e]
theorem pins_get (k : Int) (b : ByteArray) (j : Int) : ∀ (M : Wl), pget j (pins k b M) = if j = k then some b else pget j M
  | [] => by simp [pins, pget]
  | (a, c) :: M => by
    unfold pins
    split
    · unfold pget
      rw [pins_get k b j M]
      by_cases e : j = k
      · subst e
        rw [if_neg (by omega), if_pos rfl, if_pos rfl]
      · rw [if_neg e, if_neg e]
    · split
      · rename_i e
        subst e
        unfold pget
        by_cases e : j = a
        · rw [if_pos e, if_pos e]
        · rw [if_neg e, if_neg e, if_neg e]
      · conv => lhs; unfold pget
theorem pins_keys (k : Int) (b : ByteArray) : ∀ (M : Wl) (x : Int × ByteArray), x ∈ pins k b M → x = (k, b) ∨ x ∈ M
  | [], x, h => by simp [pins] at h; exact .inl h
  | (a, c) :: M, x, h => by
    unfold pins at h
    split at h
    · rcases List.mem_cons.1 h with e | h
      · exact .inr (by rw [e]; exact List.mem_cons_self)
      · rcases pins_keys k b M x h with e | h
        · exact .inl e
        · exact .inr (List.mem_cons_of_mem _ h)
    · split at h
      · rcases List.mem_cons.1 h with e | h
        · exact .inl e
        · exact .inr (List.mem_cons_of_mem _ h)
      · rcases List.mem_cons.1 h with e | h
        · exact .inl e
        · exact .inr h
theorem pins_rising (k : Int) (b : ByteArray) : ∀ {M : Wl}, Rising M → Rising (pins k b M)
  | [], _ => by simp [pins, Rising]
  | (a, c) :: M, h => by
    have h' := List.pairwise_cons.1 h
    unfold pins
    split
    · refine List.pairwise_cons.2 ⟨fun x hx => ?_, pins_rising k b h.tail⟩
      rcases pins_keys k b M x hx with e | hx
      · rw [e]; assumption
      · exact h'.1 x hx
    · split
      · rename_i e
        subst e
        exact List.pairwise_cons.2 ⟨h'.1, h.tail⟩
      · refine List.pairwise_cons.2 ⟨fun x hx => ?_, h⟩
        rcases List.mem_cons.1 hx with e | hx
        · rw [e]; dsimp only; omega
        · have := h'.1 x hx; dsimp only at *; omega
theorem pins_length (k : Int) (b : ByteArray) : ∀ {M : Wl}, Rising M → (pins k b M).length = if (pget k M).isSome then M.length else M.length + 1
  | [], _ => by simp [pins, pget]
  | (a, c) :: M, h => by
    have h' := List.pairwise_cons.1 h
    unfold pins pget
    split
    · have e0 : ¬ k = a := by omega
      rw [if_neg e0, List.length_cons, pins_length k b h.tail]
      split <;> rfl
    · split
      · rename_i e
        subst e
        simp
      · have hk : pget k M = none := pget_none.2 (fun hm => by
          obtain ⟨x, hx, e⟩ := List.mem_map.1 hm
          have := h'.1 x hx
          dsimp only at this
          omega)
        have e0 : ¬ k = a := by omega
        rw [if_neg e0, hk]
        rfl
theorem Rising.ext : ∀ {M M' : Wl}, Rising M → Rising M' → (∀ k, pget k M = pget k M') → M = M'
  | [], [], _, _, _ => rfl
  | [], (a, b) :: M', _, _, h => by
    have := h a
    simp [pget] at this
  | (a, b) :: M, [], _, _, h => by
    have := h a
    simp [pget] at this
  | (a, b) :: M, (a', b') :: M', hm, hm', h => by
    have h1 := List.pairwise_cons.1 hm
    have h2 := List.pairwise_cons.1 hm'
    have e : a = a' := by
      have k1 := h a
      have k2 := h a'
      by_cases e : a = a'
      · exact e
      · exfalso
        unfold pget at k1 k2
        rw [if_pos rfl, if_neg e] at k1
        rw [if_neg (fun e' => e e'.symm), if_pos rfl] at k2
        have q1 := h2.1 _ (pget_mem k1.symm)
        have q2 := h1.1 _ (pget_mem k2)
        dsimp only at q1 q2
        omega
    subst e
    have eb : b = b' := by
      have k1 := h a
      unfold pget at k1
      simpa using k1
    subst eb
    congr 1
    refine Rising.ext hm.tail hm'.tail (fun k => ?_)
    have k1 := h k
    unfold pget at k1
    by_cases e : k = a
    · subst e
      have q1 : pget k M = none := pget_none.2 (fun hx => by
        obtain ⟨x, hx, e⟩ := List.mem_map.1 hx
        have := h1.1 x hx
        dsimp only at this
        omega)
      have q2 : pget k M' = none := pget_none.2 (fun hx => by
        obtain ⟨x, hx, e⟩ := List.mem_map.1 hx
        have := h2.1 x hx
        dsimp only at this
        omega)
      rw [q1, q2]
    · rwa [if_neg e, if_neg e] at k1
theorem Rising.keys {M : Wl} (h : Rising M) : (M.map Prod.fst).Pairwise (· < ·) := by
  rw [List.pairwise_map]
  exact h

/-- A map's pairs are what was written. -/
def MapW (L : List (Int × Value)) (M : Wl) : Prop := (L.map Prod.fst).Nodup ∧ Rising M ∧ ∀ k, mget k L = (pget k M).map Value.string
section
variable {L : List (Int × Value)} {M : Wl}
theorem MapW.new : MapW [] [] := ⟨List.nodup_nil, List.Pairwise.nil, fun k => rfl⟩
theorem MapW.perm (h : MapW L M) : (L.map Prod.fst).Perm (M.map Prod.fst) := by
  refine (List.perm_ext_iff_of_nodup h.1 (h.2.1.keys.imp (fun h e => by omega))).2 (fun k => ?_)
  have h1 := h.2.2 k
  have e1 : mget k L = none ↔ pget k M = none := by rw [h1]; simp
  have e2 : k ∈ L.map Prod.fst ↔ ¬ mget k L = none := by rw [mget_none]; simp
  have e3 : k ∈ M.map Prod.fst ↔ ¬ pget k M = none := by rw [pget_none]; simp
  rw [e2, e3, e1]
theorem MapW.length (h : MapW L M) : L.length = M.length := by simpa using h.perm.length_eq
theorem MapW.sorted (h : MapW L M) : (L.map Prod.fst).mergeSort (fun x y => decide (x ≤ y)) = M.map Prod.fst := by
  have hs1 : ((L.map Prod.fst).mergeSort (fun x y => decide (x ≤ y))).Pairwise (· ≤ ·) := by
    have := List.pairwise_mergeSort (le := fun x y : Int => decide (x ≤ y)) (by intro a b c; simp; omega) (by intro a b; simp; omega) (L.map Prod.fst)
    exact this.imp (by intro a b; simp)
  have hs2 : (M.map Prod.fst).Pairwise (· ≤ ·) := h.2.1.keys.imp (fun h => by omega)
  refine List.Perm.eq_of_pairwise (fun a b _ _ h1 h2 => by omega) hs1 hs2 ((List.mergeSort_perm _ _).trans h.perm)
theorem MapW.put (h : MapW L M) (k : Int) (b : ByteArray) : MapW (mput k (.string b) L) (pins k b M) := by
  refine ⟨mput_nodup h.1, pins_rising k b h.2.1, fun j => ?_⟩
  rw [mget_put, pins_get, h.2.2 j]
  by_cases e : j = k
  · rw [if_pos e, if_pos e]; rfl
  · rw [if_neg e, if_neg e]
theorem MapW.at (h : MapW L M) {k : Int} {b : ByteArray} (hm : (k, b) ∈ M) : mget k L = some (.string b) := by
  rw [h.2.2, mem_pget h.2.1 hm]; rfl
end
end Go.Proofs.Ytjjphcnoegaimaa
