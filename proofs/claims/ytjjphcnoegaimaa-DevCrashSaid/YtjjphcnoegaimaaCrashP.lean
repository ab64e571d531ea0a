/- A crash's plain laws: what of each sector is durable behind it. -/
import Derived.Test.YtjjphcnoegaimaaLastPlain
import Derived.Test.YtjjphcnoegaimaaText03
import Derived.Test.YtjjphcnoegaimaaAlive03
namespace Go.Proofs.Ytjjphcnoegaimaa
open Go.RowKit
set_option linter.unusedVariables false
set_option linter.unusedSimpArgs false

/-- A device behind k steps; what each sector may come to, f. -/
structure CrK (k : Nat) (f : Nat → List ByteArray) (s : DS) : Prop where
  l0 : 0 ≤ s.left
  l1 : s.left ≤ 9223372036854775807
  w0 : 0 ≤ s.writes
  w1 : s.writes ≤ k
  hard : s.hard.length = 16
  rows : ∀ j, (s.rows j).length ≤ k
  is : ∀ i, i < 16 → f i = s.hard.getD i ByteArray.empty :: s.rows i
  fuse : s.armed = true → s.dead = false → 1 ≤ s.left
theorem CrK.start : CrK 0 (fun _ => [zsec]) (newS 16) := by
  refine ⟨Int.le_refl _, by decide, Int.le_refl _, Int.le_refl _, rfl, fun _ => Nat.le_refl _, fun i hi => ?_, fun h => by cases h⟩
  simp only [newS]
  rw [List.getD_eq_getElem?_getD, List.getElem?_replicate, if_pos hi]
  rfl
variable {k : Nat} {f : Nat → List ByteArray} {s : DS}
theorem CrK.more (h : CrK k f s) : CrK (k + 1) f s := ⟨h.l0, h.l1, h.w0, by have := h.w1; push_cast; omega, h.hard, fun j => Nat.le_succ_of_le (h.rows j), h.is, h.fuse⟩
theorem CrK.congr {g : Nat → List ByteArray} (h : CrK k f s) (e : ∀ i, i < 16 → f i = g i) : CrK k g s := ⟨h.l0, h.l1, h.w0, h.w1, h.hard, h.rows, fun i hi => by rw [← e i hi]; exact h.is i hi, h.fuse⟩
theorem CrK.ne (h : CrK k f s) {i : Nat} (hi : i < 16) : f i ≠ [] := by rw [h.is i hi]; simp
theorem CrK.len (h : CrK k f s) {i : Nat} (hi : i < 16) : (f i).length = (s.rows i).length + 1 := by rw [h.is i hi]; rfl
theorem CrK.write (h : CrK k f s) (hd : s.dead = false) (i : Nat) (hi : i < 16) (b : ByteArray) : CrK (k + 1) (fun j => if j = i then f i ++ [b] else f j) (wrS s i b) := by
  have h0 := h.w0
  have h1 := h.w1
  have h2 := h.l0
  have h3 := h.l1
  have h4 := h.fuse
  refine ⟨?_, ?_, ?_, ?_, h.hard, fun j => Nat.le_trans (wrS_rows _ _ _ _) (by have := h.rows j; omega), fun j hj => ?_, fun ha hd2 => ?_⟩
  · show 0 ≤ (if s.armed = true then s.left - 1 else s.left)
    split
    · rename_i ha; have := h4 ha hd; omega
    · exact h2
  · show (if s.armed = true then s.left - 1 else s.left) ≤ _
    split <;> omega
  · show 0 ≤ s.writes + 1
    omega
  · show s.writes + 1 ≤ ((k + 1 : Nat) : Int)
    push_cast
    omega
  · show _ = s.hard.getD j ByteArray.empty :: setR s.rows i (s.rows i ++ [b]) j
    by_cases e : j = i
    · subst e
      rw [if_pos rfl, setR_same, h.is j hj]
      rfl
    · rw [if_neg e, setR_other _ _ (by omega)]
      exact h.is j hj
  · have ha' : s.armed = true := ha
    have hd' : (if s.armed = true then decide (s.left - 1 = 0) else s.dead) = false := hd2
    show 1 ≤ (if s.armed = true then s.left - 1 else s.left)
    rw [if_pos ha'] at hd' ⊢
    have := h4 ha' hd
    have h5 : ¬ (s.left - 1 = 0) := by simpa using hd'
    omega
theorem CrK.back (h : CrK k f s) (i : Nat) (hi : i < 16) (c : Nat) (hc : c ≤ (s.rows i).length) : CrK (k + 1) (fun j => if j = i then (f i).drop c else f j) (keepS s i c) := by
  have hh := h.hard
  have e : (keepS s i c).armed = s.armed ∧ (keepS s i c).dead = s.dead ∧ (keepS s i c).left = s.left ∧ (keepS s i c).writes = s.writes := by
    unfold keepS
    split <;> exact ⟨rfl, rfl, rfl, rfl⟩
  obtain ⟨e1, e2, e3, e4⟩ := e
  refine ⟨e3 ▸ h.l0, e3 ▸ h.l1, e4 ▸ h.w0, by rw [e4]; have := h.w1; push_cast; omega, (keepS_hard s i c).trans hh, fun x => Nat.le_trans (keepS_rows s i c x) (Nat.le_succ_of_le (h.rows x)), fun j hj => ?_, fun a d => by rw [e3]; exact h.fuse (e1 ▸ a) (e2 ▸ d)⟩
  unfold keepS
  by_cases hc0 : c = 0
  · rw [if_pos hc0, hc0]
    by_cases e : j = i
    · rw [if_pos e, e]; exact h.is i hi
    · rw [if_neg e]; exact h.is j hj
  · rw [if_neg hc0]
    by_cases e : j = i
    · subst e
      rw [if_pos rfl, h.is j hj]
      simp only [setR_same]
      obtain ⟨c', rfl⟩ : ∃ c', c = c' + 1 := ⟨c - 1, by omega⟩
      rw [List.drop_succ_cons, List.drop_eq_getElem_cons (by omega), List.getD_eq_getElem?_getD, List.getElem?_set_self (by omega), Option.getD_some, Nat.add_sub_cancel, List.getD_eq_getElem?_getD, List.getElem?_eq_getElem (by omega), Option.getD_some]
    · rw [if_neg e, h.is j hj]
      simp only [setR_other s.rows ((s.rows i).drop c) (show (j : Int) ≠ (i : Int) by omega)]
      rw [List.getD_eq_getElem?_getD, List.getD_eq_getElem?_getD, List.getElem?_set_ne (by omega)]
theorem CrK.fused (h : CrK k f s) (n : Int) (h0 : 0 ≤ n) (h1 : n ≤ 9223372036854775807) : CrK (k + 1) f (fuseS s n) := by
  refine ⟨h0, h1, h.w0, by show s.writes ≤ _; have := h.w1; push_cast; omega, h.hard, fun j => Nat.le_succ_of_le (h.rows j), h.is, fun _ hd => ?_⟩
  have hd' : (s.dead || decide (n = 0)) = false := hd
  simp at hd'
  show 1 ≤ n
  omega

/-- Which of a sector's texts is durable behind a crash. -/
def crN (keep : ByteArray) (t n : Nat) : Nat := if t < keep.size then (keep.data.getD t 0).toNat % (n + 1) else 0
theorem crN_le (keep : ByteArray) (t n : Nat) : crN keep t n ≤ n := by
  unfold crN
  split
  · have := Nat.mod_lt (keep.data.getD t 0).toNat (Nat.succ_pos n)
    have h : (keep.data.getD t 0).toNat % (n + 1) < n + 1 := this
    omega
  · omega
theorem crash1_is (keep : ByteArray) (t : Nat) (s : DS) (i j : Nat) (hi : i < s.hard.length) :
    (crash1 keep t s i).hard.getD j ByteArray.empty = (if j = i then (s.hard.getD i ByteArray.empty :: s.rows i).getD (crN keep t (s.rows i).length) ByteArray.empty else s.hard.getD j ByteArray.empty) ∧ (crash1 keep t s i).rows = setR s.rows i [] := by
  have hK : ∀ c, (keepS s i c).hard.getD j ByteArray.empty = if j = i then (s.hard.getD i ByteArray.empty :: s.rows i).getD c ByteArray.empty else s.hard.getD j ByteArray.empty := by
    intro c
    unfold keepS
    by_cases hc : c = 0
    · rw [if_pos hc, hc]
      split
      · rename_i e; rw [e]; rfl
      · rfl
    · rw [if_neg hc]
      split
      · rename_i e
        subst e
        obtain ⟨c', rfl⟩ : ∃ c', c = c' + 1 := ⟨c - 1, by omega⟩
        simp only [Nat.add_sub_cancel]
        rw [List.getD_eq_getElem?_getD, List.getElem?_set_self hi]
        rfl
      · rename_i e
        simp only [List.getD_eq_getElem?_getD]
        rw [List.getElem?_set_ne (by omega)]
  have hR : ∀ c, setR (keepS s i c).rows i [] = setR s.rows i [] := by
    intro c
    funext x
    by_cases e : x = i
    · rw [e, setR_same, setR_same]
    · rw [setR_other _ _ e, setR_other _ _ e]
      unfold keepS
      split
      · rfl
      · exact setR_other _ _ e
  unfold crash1 crN
  dsimp only
  split
  · exact ⟨hK _, hR _⟩
  · refine ⟨?_, rfl⟩
    split
    · rename_i e; rw [e]; rfl
    · rfl
/-- What of each sector is durable behind the crash of those, of which the first is the t-th. -/
theorem crashL_is {n : Nat} (keep : ByteArray) (l : List (Fin n)) (j : Nat) : ∀ (t : Nat) (s : DS), s.hard.length = n → l.Nodup → 
    ((∀ i ∈ l, i.1 ≠ j) → (crashL keep t s l).hard.getD j ByteArray.empty = s.hard.getD j ByteArray.empty ∧ (crashL keep t s l).rows j = s.rows j) ∧
    (∀ (u : Nat) (i : Fin n), l[u]? = some i → i.1 = j → (crashL keep t s l).hard.getD j ByteArray.empty = (s.hard.getD j ByteArray.empty :: s.rows j).getD (crN keep (t + u) (s.rows j).length) ByteArray.empty ∧ (crashL keep t s l).rows j = []) := by
  induction l with
  | nil => exact fun t s hs _ => ⟨fun _ => ⟨rfl, rfl⟩, fun u i hu => by simp at hu⟩
  | cons a l ih =>
    intro t s hs hn
    obtain ⟨hna, hn2⟩ := List.nodup_cons.1 hn
    obtain ⟨ih1, ih2⟩ := ih (t + 1) (crash1 keep t s a.1) (by rw [crash1_hard]; exact hs) hn2
    obtain ⟨c1, c2⟩ := crash1_is keep t s a.1 j (by rw [hs]; exact a.2)
    rw [crashL]
    refine ⟨fun h => ?_, fun u i hu hij => ?_⟩
    · obtain ⟨d1, d2⟩ := ih1 (fun i hi => h i (List.mem_cons_of_mem _ hi))
      have ha := h a (List.mem_cons_self ..)
      rw [d1, d2, c1, c2, if_neg (fun e => ha e.symm), setR_other _ _ (by omega)]
      exact ⟨rfl, rfl⟩
    · cases u with
      | zero =>
        simp at hu
        subst hu
        have h : ∀ i ∈ l, i.1 ≠ j := fun i hi e => hna (by rw [show a = i from Fin.ext (by omega)]; exact hi)
        obtain ⟨d1, d2⟩ := ih1 h
        rw [d1, d2, c1, c2, if_pos hij.symm, ← hij, setR_same]
        exact ⟨rfl, rfl⟩
      | succ u =>
        rw [List.getElem?_cons_succ] at hu
        obtain ⟨d1, d2⟩ := ih2 u i hu hij
        have ha : j ≠ a.1 := fun e => hna (by rw [show a = i from Fin.ext (by omega)]; exact List.mem_of_getElem? hu)
        rw [d1, d2, c1, c2, if_neg ha, setR_other _ _ (by omega), show t + 1 + u = t + (u + 1) by omega]
        exact ⟨rfl, rfl⟩
theorem looseF_nodup (s : DS) : (looseF s).Nodup := (List.nodup_finRange _).filter _
/-- What is read of a sector behind a crash. -/
theorem crash_read (h : CrK k f s) (keep : ByteArray) (j : Nat) (hj : j < 16) : (crashS keep s).rows j = [] ∧
    ((s.rows j = [] ∧ newest (crashS keep s) j = (f j).getD 0 ByteArray.empty) ∨ ∃ u, (looseOf s)[u]? = some (j : Int) ∧ newest (crashS keep s) j = (f j).getD (crN keep u (s.rows j).length) ByteArray.empty) := by
  have hjh : j < s.hard.length := by rw [h.hard]; exact hj
  obtain ⟨c1, c2⟩ := crashL_is keep (looseF s) j 0 s rfl (looseF_nodup s)
  have hn : ∀ (x : DS), x.rows j = [] → newest x j = x.hard.getD j ByteArray.empty := fun x hx => newest_none hx
  have hrw : (crashS keep s).rows j = (crashL keep 0 s (looseF s)).rows j := rfl
  have hhd : (crashS keep s).hard = (crashL keep 0 s (looseF s)).hard := rfl
  rw [h.is j hj]
  by_cases hr : s.rows j = []
  · obtain ⟨d1, d2⟩ := c1 (fun i hi e => by
      have := mem_looseF.1 hi
      rw [e] at this
      exact this hr)
    have h0 : (crashS keep s).rows j = [] := by rw [hrw, d2, hr]
    exact ⟨h0, .inl ⟨hr, by rw [hn _ h0, hhd, d1]; rfl⟩⟩
  · have hm : (⟨j, hjh⟩ : Fin s.hard.length) ∈ looseF s := mem_looseF.2 hr
    obtain ⟨u, hu⟩ := List.mem_iff_getElem?.1 hm
    obtain ⟨d1, d2⟩ := c2 u _ hu rfl
    have h0 : (crashS keep s).rows j = [] := by rw [hrw, d2]
    refine ⟨h0, .inr ⟨u, ?_, by rw [hn _ h0, hhd, d1, Nat.zero_add]⟩⟩
    rw [← looseF_val, List.getElem?_map, hu]
    rfl
/-- Nothing is kept. -/
theorem crash_none (h : CrK k f s) (j : Nat) (hj : j < 16) : newest (crashS ⟨#[]⟩ s) j = (f j).getD 0 ByteArray.empty := by
  obtain ⟨-, h2 | ⟨u, -, h2⟩⟩ := crash_read h ⟨#[]⟩ j hj
  · exact h2.2
  · rw [h2]
    have : crN ⟨#[]⟩ u (s.rows j).length = 0 := by
      unfold crN
      rw [if_neg (by show ¬ u < 0; omega)]
    rw [this]
/-- All is kept. -/
theorem crash_full (h : CrK k f s) (hk : k ≤ 150) (j : Nat) (hj : j < 16) (all : ByteArray) (hall : all = bs ((looseOf s).map (fun i => UInt8.ofNat (s.rows i).length))) : newest (crashS all s) j = (f j).getD ((f j).length - 1) ByteArray.empty := by
  have hl := h.len hj
  have hr := h.rows j
  obtain ⟨-, ⟨h1, h2⟩ | ⟨u, hu, h2⟩⟩ := crash_read h all j hj
  · rw [h2, hl, h1]
    rfl
  · rw [h2, hl, Nat.add_sub_cancel]
    have hul : u < (looseOf s).length := (List.getElem?_eq_some_iff.1 hu).1
    have e : crN all u (s.rows j).length = (s.rows j).length := by
      unfold crN
      have hsz : all.size = (looseOf s).length := by rw [hall, bs_size]; simp
      rw [if_pos (by rw [hsz]; exact hul)]
      have e2 : (all.data.getD u 0) = UInt8.ofNat (s.rows j).length := by
        have hd : all.data.toList = (looseOf s).map (fun i => UInt8.ofNat (s.rows i).length) := by rw [hall, bs_data]
        have h3 : all.data[u]? = some (UInt8.ofNat (s.rows j).length) := by
          rw [← Array.getElem?_toList, hd, List.getElem?_map, hu]
          rfl
        rw [Array.getD_eq_getD_getElem?, h3]
        rfl
      rw [e2]
      have e3 : (UInt8.ofNat (s.rows j).length).toNat = (s.rows j).length := by
        simp
        omega
      rw [e3]
      exact Nat.mod_eq_of_lt (by omega)
    rw [e]
/-- Something is kept. -/
theorem crash_some (h : CrK k f s) (keep : ByteArray) (j : Nat) (hj : j < 16) : ∃ c, c < (f j).length ∧ newest (crashS keep s) j = (f j).getD c ByteArray.empty := by
  have hl := h.len hj
  obtain ⟨-, ⟨h1, h2⟩ | ⟨u, hu, h2⟩⟩ := crash_read h keep j hj
  · exact ⟨0, by omega, h2⟩
  · exact ⟨_, by have := crN_le keep u (s.rows j).length; omega, h2⟩
theorem crash_loose (h : CrK k f s) (keep : ByteArray) : looseOf (crashS keep s) = [] := by
  apply List.eq_nil_iff_forall_not_mem.2
  intro i hi
  rw [mem_looseOf] at hi
  obtain ⟨⟨h0, h1⟩, h2⟩ := hi
  have hh : (crashS keep s).hard.length = 16 := by rw [crashS_hard]; exact h.hard
  rw [hh] at h1
  have := (crash_read h keep i.toNat (by omega)).1
  rw [show ((i.toNat : Nat) : Int) = i by omega] at this
  exact h2 this
end Go.Proofs.Ytjjphcnoegaimaa
