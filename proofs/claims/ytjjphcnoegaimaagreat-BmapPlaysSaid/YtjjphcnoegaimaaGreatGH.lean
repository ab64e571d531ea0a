/- What is newest of a sector, whatever is done: plain laws. A device's operations in a row, and what a crash may leave of them: plain laws. The journal: what a commit's operations, and a recovery's, leave on a device wherever they end: plain laws. -/
import Derived.Test.YtjjphcnoegaimaaGreatGE
import Derived.Test.YtjjphcnoegaimaaGreatGF
namespace Go.Proofs.YtjjphcnoegaimaaGreat
open Go.RowKit

theorem newest_none {s : DS} {i : Nat} (h : s.rows i = []) : newest s i = s.hard.getD i ByteArray.empty := by simp [newest, h]
theorem newest_some {s : DS} {i : Nat} {l : List ByteArray} {b : ByteArray} (h : s.rows i = l) (hb : l.getLast? = some b) : newest s i = b := by simp [newest, h, hb]
theorem newest_keepS (s : DS) (j k i : Nat) (hj : j < s.hard.length) (hk : k ≤ (s.rows j).length) : newest (keepS s j k) i = newest s i := by
  unfold keepS
  split
  · rfl
  · rename_i hk0
    by_cases hij : (i : Int) = j
    · have e : i = j := by omega
      subst e
      by_cases hkn : k < (s.rows i).length
      · have h1 : ((s.rows i).drop k).getLast? = (s.rows i).getLast? := by
          rw [List.getLast?_drop, if_neg (by omega)]
        simp only [newest, setR_same, h1]
        have hne : s.rows i ≠ [] := by intro e; rw [e] at hkn; simp at hkn
        rw [List.getLast?_eq_some_getLast hne]
        rfl
      · have hkl : k = (s.rows i).length := by omega
        have h1 : (s.rows i).drop k = [] := List.drop_eq_nil_of_le (by omega)
        have hne : s.rows i ≠ [] := by intro e; rw [e] at hkl; simp at hkl; omega
        simp only [newest, setR_same, h1, List.getLast?_nil, Option.getD_none]
        rw [List.getLast?_eq_some_getLast hne, Option.getD_some, List.getLast_eq_getElem, List.getD_eq_getElem?_getD, List.getElem?_set_self hj, Option.getD_some, List.getD_eq_getElem?_getD, List.getElem?_eq_getElem (by omega), Option.getD_some]
        simp [hkl]
    · have hne : j ≠ i := by omega
      simp only [newest, setR_other _ _ hij]
      rw [List.getD_eq_getElem?_getD, List.getElem?_set_ne hne, ← List.getD_eq_getElem?_getD]
theorem newest_wrS (s : DS) (j : Int) (b : ByteArray) (i : Nat) : newest (wrS s j b) i = if (i : Int) = j then b else newest s i := by
  by_cases h : (i : Int) = j
  · subst h
    simp [newest, wrS, setR_same]
  · rw [if_neg h]
    simp only [newest, wrS, setR_other _ _ h]
theorem keepS_hard (s : DS) (j k : Nat) : (keepS s j k).hard.length = s.hard.length := by
  unfold keepS
  split <;> simp
theorem newest_flushL {n : Nat} (l : List (Fin n)) (i : Nat) : ∀ s : DS, s.hard.length = n → newest (flushL s l) i = newest s i := by
  induction l with
  | nil => intro s _; rfl
  | cons a l ih =>
    intro s hs
    rw [flushL, List.foldl_cons, ← flushL, ih _ (by rw [keepS_hard]; exact hs), newest_keepS s a.1 _ i (by rw [hs]; exact a.2) (Nat.le_refl _)]
theorem keepS_all_rows (s : DS) (j : Nat) : (keepS s j (s.rows j).length).rows = setR s.rows j [] := by
  unfold keepS
  split
  · rename_i h
    funext k
    by_cases hk : k = j
    · subst hk
      rw [setR_same]
      exact List.eq_nil_of_length_eq_zero h
    · rw [setR_other _ _ hk]
  · simp
theorem flushL_nil_rows {n : Nat} (l : List (Fin n)) (i : Int) : ∀ s : DS, (s.rows i = [] ∨ ∃ a ∈ l, (a.1 : Int) = i) → (flushL s l).rows i = [] := by
  induction l with
  | nil =>
    intro s h
    rcases h with h | ⟨a, h, _⟩
    · exact h
    · cases h
  | cons a l ih =>
    intro s h
    rw [flushL, List.foldl_cons, ← flushL]
    refine ih _ ?_
    rw [keepS_all_rows]
    by_cases hi : i = (a.1 : Int)
    · left; rw [hi, setR_same]
    · rw [setR_other _ _ hi]
      rcases h with h | ⟨b, hb, e⟩
      · exact .inl h
      · rcases List.mem_cons.1 hb with rfl | hb
        · exact absurd e.symm hi
        · exact .inr ⟨b, hb, e⟩
theorem mem_looseF {s : DS} {i : Fin s.hard.length} : i ∈ looseF s ↔ s.rows i.1 ≠ [] := by simp [looseF]
theorem flush_loose (s : DS) : looseOf (flushL s (looseF s)) = [] := by
  apply List.eq_nil_iff_forall_not_mem.2
  intro i hi
  rw [mem_looseOf, flushL_hard] at hi
  obtain ⟨⟨h0, h1⟩, h2⟩ := hi
  refine h2 (flushL_nil_rows (looseF s) i s ?_)
  by_cases hr : s.rows i = []
  · exact .inl hr
  · refine .inr ⟨⟨i.toNat, by omega⟩, mem_looseF.2 ?_, by show ((i.toNat : Nat) : Int) = i; omega⟩
    show s.rows ((i.toNat : Nat) : Int) ≠ []
    rw [show ((i.toNat : Nat) : Int) = i by omega]
    exact hr
theorem crash_idle (keep : ByteArray) (s : DS) (h : looseOf s = []) : crashS keep s = { s with armed := false, left := 0, dead := false } := by
  have : looseF s = [] := by
    have h1 := looseF_val s
    rw [h] at h1
    simpa using h1
  rw [crashS, this]
  rfl
end Go.Proofs.YtjjphcnoegaimaaGreat

namespace Go.Proofs.YtjjphcnoegaimaaGreat
open Go.RowKit

/-- What may be there of a sector behind a crash. -/
def cand (s : DS) (i : Nat) : List ByteArray := s.hard.getD i ByteArray.empty :: s.rows i

/-- An operation of a device. -/
inductive DOp where
  | wr (i : Nat) (b : ByteArray)
  | fl
def DOp.on (s : DS) : DOp → DS
  | .wr i b => wrS s i b
  | .fl => flushL s (looseF s)
/-- Operations, one behind the other, until the device stands still; was all done? -/
def runO : DS → List DOp → DS × Bool
  | s, [] => (s, true)
  | s, o :: l => if s.dead = true then (s, false) else runO (o.on s) l

abbrev Cs := Nat → List ByteArray
def DOp.ab (c : Cs) : DOp → Cs
  | .wr i b => fun k => if k = i then c k ++ [b] else c k
  | .fl => fun k => [(c k).getLast?.getD ByteArray.empty]
def abL (c : Cs) (l : List DOp) : Cs := l.foldl DOp.ab c
theorem abL_append (c : Cs) (a b : List DOp) : abL c (a ++ b) = abL (abL c a) b := List.foldl_append
theorem abL_cons (c : Cs) (o : DOp) (b : List DOp) : abL c (o :: b) = abL (o.ab c) b := rfl
/-- A device's candidates are c. -/
def Ab (s : DS) (c : Cs) : Prop := ∀ i, i < s.hard.length → cand s i = c i

theorem newest_cand (s : DS) (i : Nat) : newest s i = (cand s i).getLast?.getD ByteArray.empty := by
  unfold newest cand
  cases h : s.rows i with
  | nil => simp
  | cons a l =>
    rw [List.getLast?_cons_cons, List.getLast?_eq_some_getLast (by simp)]
    rfl
theorem cand_wr (s : DS) (j : Nat) (b : ByteArray) (i : Nat) : cand (wrS s j b) i = if i = j then cand s i ++ [b] else cand s i := by
  unfold cand wrS
  dsimp only
  by_cases h : i = j
  · subst h
    rw [if_pos rfl, setR_same]
    rfl
  · rw [if_neg h, setR_other _ _ (by omega)]
theorem flush_rows {s : DS} {i : Nat} (hi : i < s.hard.length) : (flushL s (looseF s)).rows i = [] := by
  refine flushL_nil_rows (looseF s) i s ?_
  by_cases hr : s.rows i = []
  · exact .inl hr
  · exact .inr ⟨⟨i, hi⟩, mem_looseF.2 hr, rfl⟩
theorem cand_fl {s : DS} {i : Nat} (hi : i < s.hard.length) : cand (flushL s (looseF s)) i = [newest s i] := by
  have h := newest_flushL (looseF s) i s rfl
  have hr := flush_rows hi
  rw [newest_none hr] at h
  rw [cand, hr, h]
theorem on_hard (s : DS) (o : DOp) : (o.on s).hard.length = s.hard.length := by
  cases o with
  | wr i b => rfl
  | fl => exact flushL_hard _ _
theorem Ab.on {s : DS} {c : Cs} (h : Ab s c) (o : DOp) : Ab (o.on s) (o.ab c) := by
  intro i hi
  rw [on_hard] at hi
  cases o with
  | wr j b =>
    show cand (wrS s j b) i = _
    rw [cand_wr, h i hi]
    rfl
  | fl =>
    show cand (flushL s (looseF s)) i = _
    rw [cand_fl hi, newest_cand, h i hi]
    rfl
theorem runO_hard : ∀ (l : List DOp) (s : DS), (runO s l).1.hard.length = s.hard.length
  | [], s => rfl
  | o :: l, s => by
    unfold runO
    split
    · rfl
    · rw [runO_hard l, on_hard]
theorem runO_ab : ∀ (l : List DOp) {s : DS} {c : Cs}, Ab s c → ∃ k, k ≤ l.length ∧ Ab (runO s l).1 (abL c (l.take k)) ∧ ((runO s l).2 = true → k = l.length)
  | [], s, c, h => ⟨0, Nat.le_refl _, h, fun _ => rfl⟩
  | o :: l, s, c, h => by
    unfold runO
    split
    · exact ⟨0, Nat.zero_le _, h, fun e => by cases e⟩
    · obtain ⟨k, h1, h2, h3⟩ := runO_ab l (h.on o)
      exact ⟨k + 1, by simp; omega, h2, fun e => by simp [h3 e]⟩
theorem flush_idle (s : DS) : (flushL s (looseF s)).armed = s.armed ∧ (flushL s (looseF s)).dead = s.dead ∧ (flushL s (looseF s)).left = s.left ∧ (flushL s (looseF s)).writes = s.writes := by
  have H : ∀ {n : Nat} (l : List (Fin n)) (s : DS), (flushL s l).armed = s.armed ∧ (flushL s l).dead = s.dead ∧ (flushL s l).left = s.left ∧ (flushL s l).writes = s.writes := by
    intro n l
    induction l with
    | nil => intro s; exact ⟨rfl, rfl, rfl, rfl⟩
    | cons i l ih =>
      intro s
      rw [flushL, List.foldl_cons, ← flushL]
      obtain ⟨a, b, c, d⟩ := ih (keepS s i.1 (s.rows i.1).length)
      rw [a, b, c, d]
      unfold keepS
      split <;> exact ⟨rfl, rfl, rfl, rfl⟩
  exact H _ _
/-- Without a fuse all is done. -/
theorem runO_free : ∀ (l : List DOp) {s : DS}, s.armed = false → s.dead = false → (runO s l).2 = true ∧ (runO s l).1.armed = false ∧ (runO s l).1.dead = false
  | [], s, h1, h2 => ⟨rfl, h1, h2⟩
  | o :: l, s, h1, h2 => by
    unfold runO
    rw [if_neg (by rw [h2]; decide)]
    refine runO_free l ?_ ?_
    · cases o with
      | wr i b => exact h1
      | fl => exact (flush_idle s).1.trans h1
    · cases o with
      | wr i b => show (if s.armed = true then _ else s.dead) = false; rw [h1]; exact h2
      | fl => exact (flush_idle s).2.1.trans h2

/-- How many of them write. -/
def wcount : List DOp → Nat
  | [] => 0
  | .wr _ _ :: l => wcount l + 1
  | .fl :: l => wcount l
theorem wcount_append (a b : List DOp) : wcount (a ++ b) = wcount a + wcount b := by
  induction a with
  | nil => simp [wcount]
  | cons o a ih => cases o <;> simp [wcount, ih] <;> omega
/-- Where an operation writes, there is a sector, and what it writes is one's bytes. -/
def DOp.fits (n : Nat) : DOp → Prop
  | .wr i b => i < n ∧ b.size = 64
  | .fl => True

/-- A device that is fit for what is done to it: at most B writes so far. -/
structure Okd (n B : Nat) (s : DS) : Prop where
  hard : s.hard.length = n
  l0 : 0 ≤ s.left
  l1 : s.left ≤ 1000
  al : s.armed = true → s.dead = false → 1 ≤ s.left
  w0 : 0 ≤ s.writes
  w1 : s.writes ≤ B
  rows : ∀ j, (s.rows j).length ≤ B
  sizes : ∀ i, i < n → ∀ b ∈ cand s i, b.size = 64
section
variable {n B : Nat} {s : DS}
theorem Okd.mono (h : Okd n B s) {C : Nat} (hc : B ≤ C) : Okd n C s := ⟨h.hard, h.l0, h.l1, h.al, h.w0, by have := h.w1; omega, fun j => Nat.le_trans (h.rows j) hc, h.sizes⟩
theorem Okd.wr (h : Okd n B s) (hd : s.dead = false) (i : Nat) (b : ByteArray) (hb : b.size = 64) : Okd n (B + 1) (wrS s i b) := by
  have h0 := h.w0
  have h1 := h.w1
  refine ⟨h.hard, ?_, ?_, ?_, ?_, ?_, ?_, ?_⟩
  · show 0 ≤ (if s.armed = true then s.left - 1 else s.left)
    have := h.l0
    split
    · rename_i ha
      have := h.al ha hd
      omega
    · exact this
  · show (if s.armed = true then s.left - 1 else s.left) ≤ 1000
    have := h.l1
    split <;> omega
  · intro ha hd'
    have ha' : s.armed = true := ha
    have hd2 : (if s.armed = true then decide (s.left - 1 = 0) else s.dead) = false := hd'
    rw [if_pos ha'] at hd2
    show 1 ≤ (if s.armed = true then s.left - 1 else s.left)
    rw [if_pos ha']
    have := h.al ha' hd
    have := of_decide_eq_false hd2
    omega
  · show 0 ≤ s.writes + 1
    omega
  · show s.writes + 1 ≤ ((B + 1 : Nat) : Int)
    push_cast
    omega
  · intro j
    have := h.rows j
    show (setR s.rows i (s.rows i ++ [b]) j).length ≤ B + 1
    by_cases hj : j = i
    · subst hj
      rw [setR_same, List.length_append]
      simp only [List.length_cons, List.length_nil]
      omega
    · rw [setR_other _ _ hj]
      omega
  · intro k hk x hx
    rw [cand_wr] at hx
    split at hx
    · rcases List.mem_append.1 hx with hx | hx
      · exact h.sizes k hk x hx
      · rw [List.mem_singleton] at hx
        rw [hx]; exact hb
    · exact h.sizes k hk x hx
theorem newest_mem (s : DS) (i : Nat) : newest s i ∈ cand s i := by
  unfold newest cand
  cases h : (s.rows i).getLast? with
  | none => exact List.mem_cons_self
  | some b => exact List.mem_cons_of_mem _ (List.mem_of_getLast? h)
theorem Okd.newest (h : Okd n B s) {i : Nat} (hi : i < n) : (newest s i).size = 64 := h.sizes i hi _ (newest_mem s i)
theorem Okd.fl (h : Okd n B s) : Okd n B (flushL s (looseF s)) := by
  obtain ⟨a, b, c, d⟩ := flush_idle s
  have hh : (flushL s (looseF s)).hard.length = n := (flushL_hard _ _).trans h.hard
  refine ⟨hh, by rw [c]; exact h.l0, by rw [c]; exact h.l1, by rw [a, b, c]; exact h.al, by rw [d]; exact h.w0, by rw [d]; exact h.w1, fun j => Nat.le_trans (flushL_rows _ _ j) (h.rows j), ?_⟩
  intro k hk x hx
  rw [cand_fl (by rw [h.hard]; exact hk), List.mem_singleton] at hx
  rw [hx]
  exact h.newest hk
theorem Okd.on (h : Okd n B s) (hd : s.dead = false) {o : DOp} (ho : o.fits n) : Okd n (B + wcount [o]) (o.on s) := by
  cases o with
  | wr i b => exact h.wr hd i b ho.2
  | fl => exact h.fl
theorem Okd.run (l : List DOp) : ∀ {B : Nat} {s : DS}, Okd n B s → (∀ o ∈ l, o.fits n) → Okd n (B + wcount l) (runO s l).1 := by
  induction l with
  | nil => intro B s h _; exact h
  | cons o l ih =>
    intro B s h hl
    unfold runO
    split
    · exact h.mono (by omega)
    · rename_i hd
      have := ih (h.on (by simpa using hd) (hl o (by simp))) (fun o' h' => hl o' (by simp [h']))
      have e : B + wcount [o] + wcount l = B + wcount (o :: l) := by cases o <;> simp [wcount] <;> omega
      rw [e] at this
      exact this
theorem Okd.fuse (h : Okd n B s) (k : Int) (h0 : 0 ≤ k) (h1 : k ≤ 1000) : Okd n B (fuseS s k) := by
  refine ⟨h.hard, h0, h1, ?_, h.w0, h.w1, h.rows, h.sizes⟩
  intro _ hd
  have hd' : (s.dead || decide (k = 0)) = false := hd
  show 1 ≤ k
  have : decide (k = 0) = false := by
    cases h' : decide (k = 0)
    · rfl
    · rw [h'] at hd'; simp at hd'
  have := of_decide_eq_false this
  omega
end

theorem cand_keep {s : DS} {j k : Nat} (hj : j < s.hard.length) (hk : k ≤ (s.rows j).length) (i : Nat) : ∀ b ∈ cand (keepS s j k) i, b ∈ cand s i := by
  intro b hb
  unfold keepS at hb
  split at hb
  · exact hb
  · rename_i h0
    unfold cand at hb ⊢
    dsimp only at hb
    by_cases h : i = j
    · subst h
      rw [setR_same, List.getD_eq_getElem?_getD, List.getElem?_set_self hj, Option.getD_some] at hb
      rcases List.mem_cons.1 hb with e | hb
      · refine List.mem_cons_of_mem _ ?_
        rw [e, List.getD_eq_getElem?_getD, List.getElem?_eq_getElem (by omega), Option.getD_some]
        exact List.getElem_mem _
      · exact List.mem_cons_of_mem _ (List.mem_of_mem_drop hb)
    · rw [setR_other _ _ (by omega), List.getD_eq_getElem?_getD, List.getElem?_set_ne (by omega), ← List.getD_eq_getElem?_getD] at hb
      exact hb
theorem cand_crash1 {s : DS} {j : Nat} (keep : ByteArray) (k : Nat) (hj : j < s.hard.length) (i : Nat) : ∀ b ∈ cand (crash1 keep k s j) i, b ∈ cand s i := by
  intro b hb
  unfold crash1 at hb
  dsimp only at hb
  have hsub : ∀ (s1 : DS), b ∈ cand { s1 with rows := setR s1.rows j [] } i → b ∈ cand s1 i := by
    intro s1 h
    unfold cand at h ⊢
    dsimp only at h
    by_cases e : i = j
    · subst e
      rw [setR_same] at h
      rw [List.mem_singleton] at h
      rw [h]
      exact List.mem_cons_self
    · rw [setR_other _ _ (by omega)] at h
      exact h
  have h1 := hsub _ hb
  split at h1
  · exact cand_keep hj (by have := Nat.mod_lt (keep.data.getD k 0).toNat (show 0 < (s.rows j).length + 1 by omega); omega) i b h1
  · exact h1
theorem cand_crashL {n : Nat} (keep : ByteArray) (l : List (Fin n)) : ∀ (k : Nat) (s : DS), s.hard.length = n → ∀ i, (∀ b ∈ cand (crashL keep k s l) i, b ∈ cand s i) ∧ ((s.rows i = [] ∨ ∃ a ∈ l, a.1 = i) → (crashL keep k s l).rows i = []) := by
  induction l with
  | nil =>
    intro k s _ i
    refine ⟨fun b hb => hb, fun h => ?_⟩
    rcases h with h | ⟨a, h, _⟩
    · exact h
    · cases h
  | cons a l ih =>
    intro k s hs i
    rw [crashL]
    obtain ⟨h1, h2⟩ := ih (k + 1) (crash1 keep k s a.1) (by rw [crash1_hard]; exact hs) i
    refine ⟨fun b hb => cand_crash1 keep k (by rw [hs]; exact a.2) i b (h1 b hb), fun h => h2 ?_⟩
    by_cases e : a.1 = i
    · left
      show setR _ _ [] _ = []
      rw [e, setR_same]
    · rcases h with h | ⟨c, hc, ec⟩
      · left
        have := crash1_rows keep k s a.1 i
        rw [h] at this
        exact List.eq_nil_of_length_eq_zero (by simpa using this)
      · rcases List.mem_cons.1 hc with rfl | hc
        · exact absurd ec e
        · exact .inr ⟨c, hc, ec⟩
/-- Behind a crash a sector is one of its candidates, and nothing is cached. -/
theorem crash_rows {s : DS} (keep : ByteArray) {i : Nat} (hi : i < s.hard.length) : (crashS keep s).rows i = [] := by
  show (crashL keep 0 s (looseF s)).rows i = []
  refine (cand_crashL keep (looseF s) 0 s rfl i).2 ?_
  by_cases hr : s.rows i = []
  · exact .inl hr
  · exact .inr ⟨⟨i, hi⟩, mem_looseF.2 hr, rfl⟩
theorem crash_cand {s : DS} (keep : ByteArray) {i : Nat} (hi : i < s.hard.length) : ∃ b ∈ cand s i, cand (crashS keep s) i = [b] := by
  have h1 := (cand_crashL keep (looseF s) 0 s rfl i).1 ((crashL keep 0 s (looseF s)).hard.getD i ByteArray.empty) List.mem_cons_self
  refine ⟨_, h1, ?_⟩
  rw [cand, crash_rows keep hi]
  rfl
theorem crash_hard (keep : ByteArray) (s : DS) : (crashS keep s).hard.length = s.hard.length := crashL_hard keep (looseF s) 0 s
theorem crash_writes (keep : ByteArray) (s : DS) : (crashS keep s).writes = s.writes := by
  have H1 : ∀ (k : Nat) (s : DS) (i : Nat), (crash1 keep k s i).writes = s.writes := by
    intro k s i
    unfold crash1 keepS
    dsimp only
    split <;> try rfl
    split <;> rfl
  have H : ∀ {n : Nat} (l : List (Fin n)) (k : Nat) (s : DS), (crashL keep k s l).writes = s.writes := by
    intro n l
    induction l with
    | nil => intro k s; rfl
    | cons i l ih => intro k s; rw [crashL, ih, H1]
  exact H (looseF s) 0 s
theorem Okd.crash {n B : Nat} {s : DS} (h : Okd n B s) (keep : ByteArray) : Okd n B (crashS keep s) := by
  refine ⟨(crash_hard keep s).trans h.hard, Int.le_refl _, by show (0 : Int) ≤ 1000; decide, (fun e => by cases e), by rw [crash_writes]; exact h.w0, by rw [crash_writes]; exact h.w1, fun j => Nat.le_trans (crashL_rows keep (looseF s) 0 s j) (h.rows j), ?_⟩
  intro i hi b hb
  obtain ⟨x, hx, e⟩ := crash_cand keep (i := i) (s := s) (by rw [h.hard]; exact hi)
  rw [e, List.mem_singleton] at hb
  rw [hb]
  exact h.sizes i hi x hx
/-- Nothing is cached. -/
def Clean (s : DS) (h : Nat → ByteArray) : Prop := ∀ i, i < s.hard.length → cand s i = [h i]
theorem Clean.ab {s : DS} {h : Nat → ByteArray} (c : Clean s h) : Ab s (fun i => [h i]) := c
theorem Clean.newest {s : DS} {h : Nat → ByteArray} (c : Clean s h) {i : Nat} (hi : i < s.hard.length) : newest s i = h i := by rw [newest_cand, c i hi]; rfl
theorem Clean.crash {s : DS} {h : Nat → ByteArray} (c : Clean s h) (keep : ByteArray) : Clean (crashS keep s) h := by
  intro i hi
  rw [crash_hard] at hi
  obtain ⟨b, hb, e⟩ := crash_cand keep hi
  rw [c i hi, List.mem_singleton] at hb
  rw [e, hb]
/-- What a crash leaves of candidates. -/
theorem Ab.crash {s : DS} {c : Cs} (h : Ab s c) (keep : ByteArray) : ∃ g : Nat → ByteArray, Clean (crashS keep s) g ∧ ∀ i, i < s.hard.length → g i ∈ c i := by
  refine ⟨fun i => (crashS keep s).hard.getD i ByteArray.empty, fun i hi => ?_, fun i hi => ?_⟩
  · rw [crash_hard] at hi
    rw [cand, crash_rows keep hi]
  · obtain ⟨b, hb, e⟩ := crash_cand keep hi
    rw [h i hi] at hb
    have : (crashS keep s).hard.getD i ByteArray.empty = b := by
      rw [cand, crash_rows keep hi] at e
      simpa using e
    show (crashS keep s).hard.getD i ByteArray.empty ∈ c i
    rw [this]
    exact hb
end Go.Proofs.YtjjphcnoegaimaaGreat

namespace Go.Proofs.YtjjphcnoegaimaaGreat
open Go.RowKit

def zerosL (n : Nat) : List UInt8 := List.replicate n 0
/-- Bytes as a sector. -/
def pad64 (l : List UInt8) : ByteArray := bs (l ++ zerosL (64 - l.length))
theorem pad64_size {l : List UInt8} (h : l.length ≤ 64) : (pad64 l).size = 64 := by simp [pad64, bs_size, zerosL]; omega
theorem pad64_data (l : List UInt8) : (pad64 l).data.toList = l ++ zerosL (64 - l.length) := by simp [pad64, bs]
def magicL : List UInt8 := [108, 117, 110, 106]
def headT (g c : Nat) : List UInt8 := magicL ++ bytesLE g 8 ++ bytesLE c 2
theorem headT_length (g c : Nat) : (headT g c).length = 14 := by simp [headT, magicL, bytesLE_length]
/-- The first sector of an area. -/
def headB (g c : Nat) : ByteArray := pad64 (sealed (headT g c))
theorem headB_size (g c : Nat) : (headB g c).size = 64 := pad64_size (by rw [sealed_length, headT_length]; decide)
/-- What a text was, that was sealed; whether. -/
def unsl (l : List UInt8) : List UInt8 × Bool := if sealed (l.take (l.length - 4)) = l then (l.take (l.length - 4), true) else ([], false)
/-- What a head tells. -/
def readB (b : ByteArray) : Nat × Nat :=
  if (unsl (b.data.toList.take 18)).2 = true ∧ (unsl (b.data.toList.take 18)).1.take 4 = magicL then (le (((unsl (b.data.toList.take 18)).1.take 12).drop 4), le ((unsl (b.data.toList.take 18)).1.drop 12)) else (0, 0)
theorem unsl_sealed (l : List UInt8) : unsl (sealed l) = (l, true) := by
  have h : (sealed l).take ((sealed l).length - 4) = l := by
    rw [sealed_length, Nat.add_sub_cancel]
    simp [sealed]
  unfold unsl
  rw [h, if_pos rfl]
theorem readB_head (g c : Nat) (hg : g < 18446744073709551616) (hc : c < 65536) : readB (headB g c) = (g, c) := by
  have h1 : (headB g c).data.toList.take 18 = sealed (headT g c) := by
    rw [headB, pad64_data, List.take_append_of_le_length (by rw [sealed_length, headT_length]; decide), List.take_of_length_le (by rw [sealed_length, headT_length]; decide)]
  unfold readB
  rw [h1, unsl_sealed, if_pos ⟨rfl, by simp [headT, magicL]⟩]
  have e1 : ((headT g c).take 12).drop 4 = bytesLE g 8 := by
    have : (headT g c).take 12 = magicL ++ bytesLE g 8 := by
      rw [headT, List.take_append_of_le_length (by simp [magicL, bytesLE_length]), List.take_of_length_le (by simp [magicL, bytesLE_length])]
    rw [this]
    simp [magicL]
  have e2 : (headT g c).drop 12 = bytesLE c 2 := by
    rw [headT, List.drop_left' (by simp [magicL, bytesLE_length])]
  simp only [e1, e2, le_bytesLE]
  rw [Nat.mod_eq_of_lt (by omega), Nat.mod_eq_of_lt (by omega)]
theorem unsl_none {l : List UInt8} (h : l.take 4 ≠ magicL) : ¬ ((unsl l).2 = true ∧ (unsl l).1.take 4 = magicL) := by
  rintro ⟨h1, h2⟩
  apply h
  unfold unsl at h1 h2
  split at h1
  · rename_i hs
    rw [if_pos hs] at h2
    have h3 : (l.take (l.length - 4)).take 4 = magicL := h2
    have : 8 ≤ l.length := by
      have := congrArg List.length h3
      simp [magicL] at this
      omega
    rw [← h3, List.take_take, Nat.min_eq_left (by omega)]
  · cases h1
theorem readB_none {b : ByteArray} (h : (b.data.toList.take 18).take 4 ≠ magicL) : readB b = (0, 0) := if_neg (unsl_none h)
theorem readB_zsec : readB zsec = (0, 0) := readB_none (by decide)

/-- How many sectors tell the places of m ones. -/
def places (m : Nat) : Nat := (m + 31) / 32
abbrev Puts := List (Nat × ByteArray)
/-- The places of a transaction, as bytes. -/
def tellP (l : Puts) : List UInt8 := l.flatMap fun x => bytesLE x.1 2
theorem tellP_length (l : Puts) : (tellP l).length = 2 * l.length := by
  induction l with
  | nil => rfl
  | cons x l ih => simp [tellP, bytesLE_length] at ih ⊢; omega
theorem tellP_at : ∀ (l : Puts) (k : Nat) (h : k < l.length), ((tellP l).drop (2 * k)).take 2 = bytesLE l[k].1 2
  | x :: l, 0, _ => by simp [tellP, bytesLE_length]
  | x :: l, k + 1, h => by
    have e : (tellP (x :: l)).drop (2 * (k + 1)) = (tellP l).drop (2 * k) := by
      have : tellP (x :: l) = bytesLE x.1 2 ++ tellP l := rfl
      rw [this, show 2 * (k + 1) = 2 + 2 * k by omega, ← List.drop_drop, List.drop_left' (by simp [bytesLE_length])]
    rw [e, tellP_at l k (by simpa using h)]
    rfl
/-- A part of them. -/
def partP (t : List UInt8) (p : Nat) : List UInt8 := (t.drop (64 * p)).take 64
/-- What a transaction has written in the area. -/
def areaL (l : Puts) : List ByteArray := ((List.range (places l.length)).map fun p => pad64 (partP (tellP l) p)) ++ l.map (·.2)
theorem areaL_length (l : Puts) : (areaL l).length = places l.length + l.length := by simp [areaL]
theorem partP_length (t : List UInt8) (p : Nat) : (partP t p).length ≤ 64 := by simp [partP]; omega
theorem areaL_sizes (l : Puts) (h : ∀ x ∈ l, x.2.size = 64) : ∀ b ∈ areaL l, b.size = 64 := by
  intro b hb
  rcases List.mem_append.1 hb with hb | hb
  · obtain ⟨p, _, rfl⟩ := List.mem_map.1 hb
    exact pad64_size (partP_length _ _)
  · obtain ⟨x, hx, rfl⟩ := List.mem_map.1 hb
    exact h x hx
/-- The transaction that an area has. -/
def keptP (f : Nat → ByteArray) (fr c : Nat) : Puts := (List.range c).map fun k => (le (((f (fr + 1 + k / 32)).data.toList.take (2 * (k % 32) + 2)).drop (2 * (k % 32))), f (fr + 1 + places c + k))
theorem kept_area (f : Nat → ByteArray) (fr : Nat) (l : Puts) (hl : ∀ x ∈ l, x.1 < 65536) (hf : ∀ p (h : p < (areaL l).length), f (fr + 1 + p) = (areaL l)[p]) : keptP f fr l.length = l := by
  apply List.ext_getElem
  · simp [keptP]
  · intro k h1 h2
    have hk : k < l.length := h2
    have hp : k / 32 < places l.length := by unfold places; omega
    simp only [keptP, List.getElem_map, List.getElem_range]
    have e1 : f (fr + 1 + k / 32) = pad64 (partP (tellP l) (k / 32)) := by
      rw [hf (k / 32) (by rw [areaL_length]; omega)]
      simp only [areaL]
      rw [List.getElem_append_left (by simpa using hp)]
      simp
    have e2 : f (fr + 1 + places l.length + k) = l[k].2 := by
      rw [Nat.add_assoc, hf (places l.length + k) (by rw [areaL_length]; omega)]
      simp only [areaL]
      rw [List.getElem_append_right (by simp)]
      simp
    rw [e1, e2, pad64_data]
    have hlen : 2 * (k % 32) + 2 ≤ (partP (tellP l) (k / 32)).length := by
      simp only [partP, List.length_take, List.length_drop, tellP_length]
      omega
    have e3 : ((partP (tellP l) (k / 32) ++ zerosL (64 - (partP (tellP l) (k / 32)).length)).take (2 * (k % 32) + 2)).drop (2 * (k % 32)) = bytesLE l[k].1 2 := by
      rw [List.take_append_of_le_length hlen, ← tellP_at l k hk, partP, List.take_take, Nat.min_eq_left (by omega), List.drop_take, List.drop_drop]
      congr 1
      · omega
      · congr 1
        omega
    rw [e3, le_bytesLE, Nat.mod_eq_of_lt (hl _ (List.getElem_mem _))]

/-- Writes, one sector behind the other. -/
def wrsO : Nat → List ByteArray → List DOp
  | _, [] => []
  | a, b :: l => .wr a b :: wrsO (a + 1) l
theorem wrsO_length : ∀ (l : List ByteArray) (a : Nat), (wrsO a l).length = l.length
  | [], _ => rfl
  | b :: l, a => by simp [wrsO, wrsO_length l]
theorem wrsO_take : ∀ (l : List ByteArray) (a k : Nat), (wrsO a l).take k = wrsO a (l.take k)
  | [], a, k => by simp [wrsO]
  | b :: l, a, 0 => by simp [wrsO]
  | b :: l, a, k + 1 => by simp [wrsO, wrsO_take l]
theorem wrsO_append : ∀ (l m : List ByteArray) (a : Nat), wrsO a (l ++ m) = wrsO a l ++ wrsO (a + l.length) m
  | [], m, a => by simp [wrsO]
  | b :: l, m, a => by
    rw [List.cons_append, wrsO, wrsO_append l m, wrsO, List.cons_append, List.length_cons, show a + 1 + l.length = a + (l.length + 1) by omega]
theorem wrsO_ab : ∀ (l : List ByteArray) (a : Nat) (c : Cs) (i : Nat), abL c (wrsO a l) i = c i ++ (if h : a ≤ i ∧ i - a < l.length then [l[i - a]'h.2] else [])
  | [], a, c, i => by simp [wrsO, abL]
  | b :: l, a, c, i => by
    rw [wrsO, abL_cons, wrsO_ab l (a + 1)]
    show (if i = a then c i ++ [b] else c i) ++ _ = _
    by_cases h : i = a
    · subst h
      rw [if_pos rfl, dif_neg (by omega), dif_pos (by simp)]
      simp
    · rw [if_neg h]
      by_cases h2 : a + 1 ≤ i ∧ i - (a + 1) < l.length
      · rw [dif_pos h2, dif_pos (by simp; omega)]
        congr 2
        have e : i - a = (i - (a + 1)) + 1 := by omega
        simp only [e, List.getElem_cons_succ]
      · rw [dif_neg h2, dif_neg (by simp; omega)]
/-- A transaction, laid to its places. -/
def layO (l : Puts) : List DOp := l.map fun x => .wr x.1 x.2
theorem layO_ab : ∀ (l : Puts) (c : Cs) (i : Nat), abL c (layO l) i = c i ++ (l.filter (fun x => x.1 = i)).map (·.2)
  | [], c, i => by simp [layO, abL]
  | x :: l, c, i => by
    rw [layO, List.map_cons, ← layO, abL_cons, layO_ab l]
    show (if i = x.1 then c i ++ [x.2] else c i) ++ _ = _
    by_cases h : i = x.1
    · subst h
      rw [if_pos rfl]
      simp
    · rw [if_neg h, List.filter_cons_of_neg (by simpa using fun e => h e.symm)]
/-- Sectors behind a transaction. -/
def laid (h : Nat → ByteArray) (l : Puts) : Nat → ByteArray := l.foldl (fun h x i => if i = x.1 then x.2 else h i) h
theorem laid_cons (h : Nat → ByteArray) (x : Nat × ByteArray) (l : Puts) : laid h (x :: l) = laid (fun i => if i = x.1 then x.2 else h i) l := rfl
theorem laid_last : ∀ (l : Puts) (h : Nat → ByteArray) (i : Nat), (h i :: (l.filter (fun x => x.1 = i)).map (·.2)).getLast?.getD ByteArray.empty = laid h l i
  | [], h, i => rfl
  | x :: l, h, i => by
    rw [laid_cons, ← laid_last l]
    by_cases e : x.1 = i
    · subst e
      rw [List.filter_cons_of_pos (by simp), List.map_cons, if_pos rfl, List.getLast?_cons_cons]
    · rw [List.filter_cons_of_neg (by simpa using e), if_neg (fun y => e y.symm)]
theorem laid_mem (l : Puts) (h : Nat → ByteArray) (i : Nat) : laid h l i = h i ∨ ∃ x ∈ l, x.1 = i ∧ x.2 = laid h l i := by
  rw [← laid_last]
  have hm : ((h i :: (l.filter (fun x => x.1 = i)).map (·.2)).getLast?.getD ByteArray.empty) ∈ (h i :: (l.filter (fun x => x.1 = i)).map (·.2)) := by
    rw [List.getLast?_eq_some_getLast (by simp), Option.getD_some]
    exact List.getLast_mem _
  rcases List.mem_cons.1 hm with e | e
  · exact .inl e
  · obtain ⟨x, hx, ex⟩ := List.mem_map.1 e
    rw [List.mem_filter] at hx
    exact .inr ⟨x, hx.1, by simpa using hx.2, ex⟩
theorem laid_out (l : Puts) (h : Nat → ByteArray) (i : Nat) (hi : ∀ x ∈ l, x.1 ≠ i) : laid h l i = h i := by
  rcases laid_mem l h i with e | ⟨x, hx, e, _⟩
  · exact e
  · exact absurd e (hi x hx)
theorem laid_same (l : Puts) (h g : Nat → ByteArray) (i : Nat) (hh : h i = g i ∨ ∃ x ∈ l, x.1 = i) : laid h l i = laid g l i := by
  rw [← laid_last, ← laid_last]
  rcases hh with e | ⟨x, hx, e⟩
  · rw [e]
  · have : ((l.filter (fun x => x.1 = i)).map (·.2)) ≠ [] := by
      intro e'
      have : (x.2) ∈ ((l.filter (fun x => x.1 = i)).map (·.2)) := List.mem_map.2 ⟨x, List.mem_filter.2 ⟨hx, by simpa using e⟩, rfl⟩
      rw [e'] at this
      cases this
    obtain ⟨a, t, et⟩ := List.exists_cons_of_ne_nil this
    rw [et, List.getLast?_cons_cons, List.getLast?_cons_cons]

/-- The operations of a commit. -/
def recoverO (fr g : Nat) (l : Puts) : List DOp := layO l ++ [.fl, .wr fr (headB g 0), .fl]
def commitO (fr g : Nat) (l : Puts) : List DOp := wrsO (fr + 1) (areaL l) ++ (.fl :: .wr fr (headB g l.length) :: .fl :: recoverO fr g l)

/-- A transaction may be: on N sectors, the area from fr on of n ones. -/
structure MayP (N fr n : Nat) (l : Puts) : Prop where
  area : fr + n ≤ N
  small : N ≤ 4096
  fit : 1 + places l.length + l.length ≤ n
  put : ∀ x ∈ l, x.1 < N ∧ (x.1 < fr ∨ fr + n ≤ x.1) ∧ x.2.size = 64

/-- Operations' ends have P, wherever they end. -/
def Pre (P : Cs → Prop) (c : Cs) (l : List DOp) : Prop := ∀ k, P (abL c (l.take k))
theorem Pre.nil {P : Cs → Prop} {c : Cs} (h : P c) : Pre P c [] := fun k => by rw [List.take_nil]; exact h
theorem Pre.cons {P : Cs → Prop} {c : Cs} {o : DOp} {l : List DOp} (h : P c) (h2 : Pre P (o.ab c) l) : Pre P c (o :: l) := by
  intro k
  cases k with
  | zero => exact h
  | succ k => rw [List.take_succ_cons, abL_cons]; exact h2 k
theorem Pre.append {P : Cs → Prop} {c : Cs} {a b : List DOp} (h : Pre P c a) (h2 : Pre P (abL c a) b) : Pre P c (a ++ b) := by
  intro k
  rw [List.take_append, abL_append]
  by_cases hk : k ≤ a.length
  · rw [show k - a.length = 0 by omega, List.take_zero]
    exact h k
  · rw [List.take_of_length_le (by omega)]
    exact h2 _

section
variable (N fr n g : Nat) (l : Puts) (h0 : Nat → ByteArray)
/-- A sector that is not of the area. -/
def Out (i : Nat) : Prop := i < N ∧ (i < fr ∨ fr + n ≤ i)
/-- As it was. -/
def JA (h : Nat → ByteArray) : Prop := h fr = h0 fr ∧ ∀ i, Out N fr n i → h i = h0 i
/-- It is committed, and not done. -/
def JB (h : Nat → ByteArray) : Prop := h fr = headB g l.length ∧ (∀ p (hp : p < (areaL l).length), h (fr + 1 + p) = (areaL l)[p]) ∧ ∀ i, Out N fr n i → h i = h0 i ∨ ∃ x ∈ l, x.1 = i ∧ x.2 = h i
/-- It is done. -/
def JC (h : Nat → ByteArray) : Prop := h fr = headB g 0 ∧ ∀ i, Out N fr n i → h i = laid h0 l i
/-- What a crash may leave. -/
def Img (c : Cs) (h : Nat → ByteArray) : Prop := ∀ i, i < N → h i ∈ c i
end

section
variable {N fr n g : Nat} {l : Puts} {h0 : Nat → ByteArray}
theorem MayP.hfr (m : MayP N fr n l) : fr < N := by have := m.fit; have := m.area; omega
theorem lay_prefix (l : Puts) (k : Nat) : (layO l).take k = layO (l.take k) := by simp [layO, List.map_take]
theorem fl_one {c : Cs} {i : Nat} {b : ByteArray} (h : c i = [b]) : DOp.fl.ab c i = [b] := by show [(c i).getLast?.getD _] = _; rw [h]; rfl

/-- The lay, the flush, the done: from where it is committed, or partly laid. -/
theorem recover_pre (m : MayP N fr n l) {h : Nat → ByteArray} (hB : JB N fr n g l h0 h) {c : Cs} (hc : ∀ i, i < N → c i = [h i]) :
    Pre (fun c => ∀ h', Img N c h' → JB N fr n g l h0 h' ∨ JC N fr n g l h0 h') c (recoverO fr g l) ∧
    ∃ h', (∀ i, i < N → abL c (recoverO fr g l) i = [h' i]) ∧ JC N fr n g l h0 h' := by
  obtain ⟨b1, b2, b3⟩ := hB
  have hfr := m.hfr
  have hin : ∀ i, i < N → (fr ≤ i ∧ i < fr + n) → ∀ (l' : Puts), (∀ x ∈ l', x ∈ l) → abL c (layO l') i = [h i] := by
    intro i hi ha l' hl'
    rw [layO_ab, hc i hi, List.filter_eq_nil_iff.2 (fun x hx => ?_)]
    · rfl
    · have := (m.put x (hl' x hx)).2.1
      simp
      omega
  have hout : ∀ i, Out N fr n i → ∀ (l' : Puts), (∀ x ∈ l', x ∈ l) → ∀ b ∈ abL c (layO l') i, b = h0 i ∨ ∃ x ∈ l, x.1 = i ∧ x.2 = b := by
    intro i hi l' hl' b hb
    rw [layO_ab, hc i hi.1] at hb
    rcases List.mem_append.1 hb with hb | hb
    · rw [List.mem_singleton] at hb
      rw [hb]
      exact b3 i hi
    · obtain ⟨x, hx, ex⟩ := List.mem_map.1 hb
      rw [List.mem_filter] at hx
      exact .inr ⟨x, hl' x hx.1, by simpa using hx.2, ex⟩
  have hinB : ∀ {c' : Cs} {h' : Nat → ByteArray}, Img N c' h' → (∀ i, i < N → (fr ≤ i ∧ i < fr + n) → c' i = [h i]) → (∀ i, Out N fr n i → ∀ b ∈ c' i, b = h0 i ∨ ∃ x ∈ l, x.1 = i ∧ x.2 = b) → JB N fr n g l h0 h' := by
    intro c' h' him h1 h2
    have hA : ∀ i, i < N → (fr ≤ i ∧ i < fr + n) → h' i = h i := by
      intro i hi ha
      have := him i hi
      rw [h1 i hi ha, List.mem_singleton] at this
      exact this
    have := m.fit
    have := m.area
    refine ⟨(hA fr hfr ⟨Nat.le_refl _, by omega⟩).trans b1, fun p hp => ?_, fun i hi => h2 i hi _ (him i hi.1)⟩
    rw [areaL_length] at hp
    rw [hA (fr + 1 + p) (by omega) ⟨by omega, by omega⟩]
    exact b2 p (by rw [areaL_length]; exact hp)
  -- behind the flush
  have hl2 : ∀ i, i < N → DOp.fl.ab (abL c (layO l)) i = [laid h l i] := by
    intro i hi
    show [(abL c (layO l) i).getLast?.getD _] = _
    rw [layO_ab, hc i hi, List.singleton_append, laid_last]
  have hlo : ∀ i, Out N fr n i → laid h l i = laid h0 l i := by
    intro i hi
    refine laid_same l h h0 i ?_
    rcases b3 i hi with e | ⟨x, hx, e, _⟩
    · exact .inl e
    · exact .inr ⟨x, hx, e⟩
  have hli : ∀ i, (fr ≤ i ∧ i < fr + n) → laid h l i = h i := by
    intro i ha
    refine laid_out l h i (fun x hx => ?_)
    have := (m.put x hx).2.1
    omega
  have hmemo : ∀ i, Out N fr n i → laid h l i = h0 i ∨ ∃ x ∈ l, x.1 = i ∧ x.2 = laid h l i := by
    intro i hi
    rw [hlo i hi]
    exact laid_mem l h0 i
  have c3 : ∀ i, i < N → (DOp.wr fr (headB g 0)).ab (DOp.fl.ab (abL c (layO l))) i = if i = fr then [laid h l i, headB g 0] else [laid h l i] := by
    intro i hi
    show (if i = fr then DOp.fl.ab (abL c (layO l)) i ++ [headB g 0] else DOp.fl.ab (abL c (layO l)) i) = _
    rw [hl2 i hi]
    split <;> rfl
  have c4 : ∀ i, i < N → DOp.fl.ab ((DOp.wr fr (headB g 0)).ab (DOp.fl.ab (abL c (layO l)))) i = [if i = fr then headB g 0 else laid h l i] := by
    intro i hi
    show [((DOp.wr fr (headB g 0)).ab (DOp.fl.ab (abL c (layO l))) i).getLast?.getD _] = _
    rw [c3 i hi]
    split <;> rfl
  have hfo : ∀ i, Out N fr n i → i ≠ fr := by
    intro i hi e
    have := m.fit
    have := hi.2
    omega
  have hlast : JC N fr n g l h0 (fun i => if i = fr then headB g 0 else laid h l i) := by
    refine ⟨if_pos rfl, fun i hi => ?_⟩
    show (if i = fr then headB g 0 else laid h l i) = _
    rw [if_neg (hfo i hi), hlo i hi]
  refine ⟨?_, ⟨_, fun i hi => ?_, hlast⟩⟩
  · refine Pre.append (fun k h' him => ?_) (Pre.cons (fun h' him => ?_) (Pre.cons (fun h' him => ?_) (Pre.cons (fun h' him => ?_) (Pre.nil (fun h' him => ?_)))))
    · rw [lay_prefix] at him
      exact .inl (hinB him (fun i hi ha => hin i hi ha _ (fun x hx => List.mem_of_mem_take hx)) (fun i hi => hout i hi _ (fun x hx => List.mem_of_mem_take hx)))
    · exact .inl (hinB him (fun i hi ha => hin i hi ha _ (fun x hx => hx)) (fun i hi => hout i hi _ (fun x hx => hx)))
    · refine .inl (hinB him (fun i hi ha => ?_) (fun i hi b hb => ?_))
      · rw [hl2 i hi, hli i ha]
      · rw [hl2 i hi.1, List.mem_singleton] at hb
        rw [hb]
        exact hmemo i hi
    · by_cases hf : h' fr = headB g 0
      · refine .inr ⟨hf, fun i hi => ?_⟩
        have := him i hi.1
        rw [c3 i hi.1, if_neg (hfo i hi), List.mem_singleton] at this
        rw [this, hlo i hi]
      · have him' : Img N (DOp.fl.ab (abL c (layO l))) h' := by
          intro i hi
          have := him i hi
          rw [c3 i hi] at this
          rw [hl2 i hi]
          by_cases e : i = fr
          · subst e
            rw [if_pos rfl] at this
            simp only [List.mem_cons, List.not_mem_nil, or_false] at this
            rcases this with e | e
            · rw [e]; exact List.mem_cons_self
            · exact absurd e hf
          · rwa [if_neg e] at this
        refine .inl (hinB him' (fun i hi ha => ?_) (fun i hi b hb => ?_))
        · rw [hl2 i hi, hli i ha]
        · rw [hl2 i hi.1, List.mem_singleton] at hb
          rw [hb]
          exact hmemo i hi
    · right
      have : ∀ i, i < N → h' i = if i = fr then headB g 0 else laid h l i := by
        intro i hi
        have := him i hi
        rw [c4 i hi, List.mem_singleton] at this
        exact this
      exact ⟨by rw [this fr hfr, if_pos rfl], fun i hi => by rw [this i hi.1, if_neg (hfo i hi), hlo i hi]⟩
  · rw [recoverO, abL_append]
    exact c4 i hi

/-- A commit, wherever it ends. -/
theorem commit_pre (m : MayP N fr n l) {c : Cs} (hc : ∀ i, i < N → c i = [h0 i]) :
    Pre (fun c => ∀ h', Img N c h' → JA N fr n h0 h' ∨ JB N fr n g l h0 h' ∨ JC N fr n g l h0 h') c (commitO fr g l) ∧
    ∃ h', (∀ i, i < N → abL c (commitO fr g l) i = [h' i]) ∧ JC N fr n g l h0 h' := by
  have hfr := m.hfr
  have hfit := m.fit
  have harea := m.area
  have hw : ∀ (T : List ByteArray), T.length ≤ (areaL l).length → ∀ i, i < N → (i = fr ∨ Out N fr n i) → abL c (wrsO (fr + 1) T) i = [h0 i] := by
    intro T hT i hi ho
    rw [areaL_length] at hT
    rw [wrsO_ab, hc i hi, dif_neg]
    · rfl
    · rcases ho with e | ho
      · omega
      · have := ho.2
        omega
  -- behind the first flush
  let h1 : Nat → ByteArray := fun i => if h : fr + 1 ≤ i ∧ i - (fr + 1) < (areaL l).length then (areaL l)[i - (fr + 1)]'h.2 else h0 i
  have hh1 : ∀ i, (i = fr ∨ Out N fr n i) → h1 i = h0 i := by
    intro i ho
    refine dif_neg ?_
    rw [areaL_length]
    rcases ho with e | ho
    · omega
    · have := ho.2
      omega
  have e1 : ∀ i, i < N → DOp.fl.ab (abL c (wrsO (fr + 1) (areaL l))) i = [h1 i] := by
    intro i hi
    show [(abL c (wrsO (fr + 1) (areaL l)) i).getLast?.getD _] = _
    rw [wrsO_ab, hc i hi]
    by_cases h : fr + 1 ≤ i ∧ i - (fr + 1) < (areaL l).length
    · rw [dif_pos h]
      simp only [h1, dif_pos h]
      rfl
    · rw [dif_neg h]
      simp only [h1, dif_neg h]
      rfl
  have e2 : ∀ i, i < N → (DOp.wr fr (headB g l.length)).ab (DOp.fl.ab (abL c (wrsO (fr + 1) (areaL l)))) i = if i = fr then [h0 i, headB g l.length] else [h1 i] := by
    intro i hi
    show (if i = fr then DOp.fl.ab (abL c (wrsO (fr + 1) (areaL l))) i ++ [headB g l.length] else DOp.fl.ab (abL c (wrsO (fr + 1) (areaL l))) i) = _
    rw [e1 i hi]
    split
    · rename_i e
      rw [hh1 i (.inl e)]
      rfl
    · rfl
  have e3 : ∀ i, i < N → DOp.fl.ab ((DOp.wr fr (headB g l.length)).ab (DOp.fl.ab (abL c (wrsO (fr + 1) (areaL l))))) i = [if i = fr then headB g l.length else h1 i] := by
    intro i hi
    show [((DOp.wr fr (headB g l.length)).ab (DOp.fl.ab (abL c (wrsO (fr + 1) (areaL l)))) i).getLast?.getD _] = _
    rw [e2 i hi]
    split <;> rfl
  have hfo : ∀ i, Out N fr n i → i ≠ fr := by
    intro i hi e
    have := hi.2
    omega
  have hB : JB N fr n g l h0 (fun i => if i = fr then headB g l.length else h1 i) := by
    refine ⟨if_pos rfl, fun p hp => ?_, fun i hi => .inl ?_⟩
    · show (if fr + 1 + p = fr then headB g l.length else h1 (fr + 1 + p)) = _
      rw [if_neg (by omega)]
      simp only [h1]
      rw [dif_pos ⟨by omega, by omega⟩]
      congr 1
      omega
    · show (if i = fr then headB g l.length else h1 i) = _
      rw [if_neg (hfo i hi), hh1 i (.inr hi)]
  obtain ⟨r1, r2⟩ := recover_pre m hB (c := DOp.fl.ab ((DOp.wr fr (headB g l.length)).ab (DOp.fl.ab (abL c (wrsO (fr + 1) (areaL l)))))) e3
  have hA : ∀ {c' : Cs} {h' : Nat → ByteArray}, Img N c' h' → (∀ i, i < N → (i = fr ∨ Out N fr n i) → c' i = [h0 i]) → JA N fr n h0 h' := by
    intro c' h' him hx
    have : ∀ i, i < N → (i = fr ∨ Out N fr n i) → h' i = h0 i := by
      intro i hi ho
      have := him i hi
      rw [hx i hi ho, List.mem_singleton] at this
      exact this
    exact ⟨this fr hfr (.inl rfl), fun i hi => this i hi.1 (.inr hi)⟩
  refine ⟨?_, ?_⟩
  · refine Pre.append (fun k h' him => ?_) (Pre.cons (fun h' him => ?_) (Pre.cons (fun h' him => ?_) (Pre.cons (fun h' him => ?_) (fun k h' him => ?_))))
    · rw [wrsO_take] at him
      exact .inl (hA him (hw _ (by simp; omega)))
    · exact .inl (hA him (hw _ (Nat.le_refl _)))
    · exact .inl (hA him (fun i hi ho => by rw [e1 i hi, hh1 i ho]))
    · by_cases hf : h' fr = headB g l.length
      · refine .inr (.inl ⟨hf, fun p hp => ?_, fun i hi => .inl ?_⟩)
        · rw [areaL_length] at hp
          have := him (fr + 1 + p) (by omega)
          rw [e2 _ (by omega), if_neg (by omega), List.mem_singleton] at this
          rw [this]
          have := hB.2.1 p (by rw [areaL_length]; exact hp)
          dsimp only at this
          rwa [if_neg (by omega)] at this
        · have := him i hi.1
          rw [e2 i hi.1, if_neg (hfo i hi), List.mem_singleton] at this
          rw [this, hh1 i (.inr hi)]
      · refine .inl ⟨?_, fun i hi => ?_⟩
        · have := him fr hfr
          rw [e2 fr hfr, if_pos rfl] at this
          simp only [List.mem_cons, List.not_mem_nil, or_false] at this
          rcases this with e | e
          · exact e
          · exact absurd e hf
        · have := him i hi.1
          rw [e2 i hi.1, if_neg (hfo i hi), List.mem_singleton] at this
          rw [this, hh1 i (.inr hi)]
    · exact .inr (r1 k h' him)
  · obtain ⟨h', a, b⟩ := r2
    refine ⟨h', fun i hi => ?_, b⟩
    rw [commitO, abL_append]
    exact a i hi
end
end Go.Proofs.YtjjphcnoegaimaaGreat
