/- What is newest of a sector, whatever is done: plain laws. -/
import Derived.Test.YtjjphcnoegaimaaDevC
namespace Go.Proofs.Ytjjphcnoegaimaa
open Go.RowKit

theorem newest_none {s : DS} {i : Nat} (h : s.rows i = []) : newest s i = s.hard.getD i ByteArray.empty := by simp [newest, h]
theorem newest_some {s : DS} {i : Nat} {l : List ByteArray} {b : ByteArray} (h : s.rows i = l) (hb : l.getLast? = some b) : newest s i = b := by simp [newest, h, hb]
theorem newest_keepS (s : DS) (j k i : Nat) (hj : j < s.hard.length) (hk : k ≤ (s.rows j).length) : newest (keepS s j k) i = newest s i := by
  unfold keepS
  split
  · rfl
  · rename_i hk0
    by_cases hij : (i : Int) = j
    · have e : i = j := by omega
      subst e
      by_cases hkn : k < (s.rows i).length
      · have h1 : ((s.rows i).drop k).getLast? = (s.rows i).getLast? := by
          rw [List.getLast?_drop, if_neg (by omega)]
        simp only [newest, setR_same, h1]
        have hne : s.rows i ≠ [] := by intro e; rw [e] at hkn; simp at hkn
        rw [List.getLast?_eq_some_getLast hne]
        rfl
      · have hkl : k = (s.rows i).length := by omega
        have h1 : (s.rows i).drop k = [] := List.drop_eq_nil_of_le (by omega)
        have hne : s.rows i ≠ [] := by intro e; rw [e] at hkl; simp at hkl; omega
        simp only [newest, setR_same, h1, List.getLast?_nil, Option.getD_none]
        rw [List.getLast?_eq_some_getLast hne, Option.getD_some, List.getLast_eq_getElem, List.getD_eq_getElem?_getD, List.getElem?_set_self hj, Option.getD_some, List.getD_eq_getElem?_getD, List.getElem?_eq_getElem (by omega), Option.getD_some]
        simp [hkl]
    · have hne : j ≠ i := by omega
      simp only [newest, setR_other _ _ hij]
      rw [List.getD_eq_getElem?_getD, List.getElem?_set_ne hne, ← List.getD_eq_getElem?_getD]
theorem newest_wrS (s : DS) (j : Int) (b : ByteArray) (i : Nat) : newest (wrS s j b) i = if (i : Int) = j then b else newest s i := by
  by_cases h : (i : Int) = j
  · subst h
    simp [newest, wrS, setR_same]
  · rw [if_neg h]
    simp only [newest, wrS, setR_other _ _ h]
theorem keepS_hard (s : DS) (j k : Nat) : (keepS s j k).hard.length = s.hard.length := by
  unfold keepS
  split <;> simp
theorem newest_flushL {n : Nat} (l : List (Fin n)) (i : Nat) : ∀ s : DS, s.hard.length = n → newest (flushL s l) i = newest s i := by
  induction l with
  | nil => intro s _; rfl
  | cons a l ih =>
    intro s hs
    rw [flushL, List.foldl_cons, ← flushL, ih _ (by rw [keepS_hard]; exact hs), newest_keepS s a.1 _ i (by rw [hs]; exact a.2) (Nat.le_refl _)]
theorem keepS_all_rows (s : DS) (j : Nat) : (keepS s j (s.rows j).length).rows = setR s.rows j [] := by
  unfold keepS
  split
  · rename_i h
    funext k
    by_cases hk : k = j
    · subst hk
      rw [setR_same]
      exact List.eq_nil_of_length_eq_zero h
    · rw [setR_other _ _ hk]
  · simp
theorem flushL_nil_rows {n : Nat} (l : List (Fin n)) (i : Int) : ∀ s : DS, (s.rows i = [] ∨ ∃ a ∈ l, (a.1 : Int) = i) → (flushL s l).rows i = [] := by
  induction l with
  | nil =>
    intro s h
    rcases h with h | ⟨a, h, _⟩
    · exact h
    · cases h
  | cons a l ih =>
    intro s h
    rw [flushL, List.foldl_cons, ← flushL]
    refine ih _ ?_
    rw [keepS_all_rows]
    by_cases hi : i = (a.1 : Int)
    · left; rw [hi, setR_same]
    · rw [setR_other _ _ hi]
      rcases h with h | ⟨b, hb, e⟩
      · exact .inl h
      · rcases List.mem_cons.1 hb with rfl | hb
        · exact absurd e.symm hi
        · exact .inr ⟨b, hb, e⟩
theorem mem_looseF {s : DS} {i : Fin s.hard.length} : i ∈ looseF s ↔ s.rows i.1 ≠ [] := by simp [looseF]
theorem flush_loose (s : DS) : looseOf (flushL s (looseF s)) = [] := by
  apply List.eq_nil_iff_forall_not_mem.2
  intro i hi
  rw [mem_looseOf, flushL_hard] at hi
  obtain ⟨⟨h0, h1⟩, h2⟩ := hi
  refine h2 (flushL_nil_rows (looseF s) i s ?_)
  by_cases hr : s.rows i = []
  · exact .inl hr
  · refine .inr ⟨⟨i.toNat, by omega⟩, mem_looseF.2 ?_, by show ((i.toNat : Nat) : Int) = i; omega⟩
    show s.rows ((i.toNat : Nat) : Int) ≠ []
    rw [show ((i.toNat : Nat) : Int) = i by omega]
    exact hr
theorem crash_idle (keep : ByteArray) (s : DS) (h : looseOf s = []) : crashS keep s = { s with armed := false, left := 0, dead := false } := by
  have : looseF s = [] := by
    have h1 := looseF_val s
    rw [h] at h1
    simpa using h1
  rw [crashS, this]
  rfl
end Go.Proofs.Ytjjphcnoegaimaa
