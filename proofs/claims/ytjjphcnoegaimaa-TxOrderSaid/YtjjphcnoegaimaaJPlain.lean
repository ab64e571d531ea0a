/- A device's operations in a row, and what a crash may leave of them: plain laws. -/
import Derived.Test.YtjjphcnoegaimaaLastPlain
namespace Go.Proofs.Ytjjphcnoegaimaa
open Go.RowKit

/-- What may be there of a sector behind a crash. -/
def cand (s : DS) (i : Nat) : List ByteArray := s.hard.getD i ByteArray.empty :: s.rows i

/-- An operation of a device. -/
inductive DOp where
  | wr (i : Nat) (b : ByteArray)
  | fl
def DOp.on (s : DS) : DOp → DS
  | .wr i b => wrS s i b
  | .fl => flushL s (looseF s)
/-- Operations, one behind the other, until the device stands still; was all done? -/
def runO : DS → List DOp → DS × Bool
  | s, [] => (s, true)
  | s, o :: l => if s.dead = true then (s, false) else runO (o.on s) l

abbrev Cs := Nat → List ByteArray
def DOp.ab (c : Cs) : DOp → Cs
  | .wr i b => fun k => if k = i then c k ++ [b] else c k
  | .fl => fun k => [(c k).getLast?.getD ByteArray.empty]
def abL (c : Cs) (l : List DOp) : Cs := l.foldl DOp.ab c
theorem abL_append (c : Cs) (a b : List DOp) : abL c (a ++ b) = abL (abL c a) b := List.foldl_append
theorem abL_cons (c : Cs) (o : DOp) (b : List DOp) : abL c (o :: b) = abL (o.ab c) b := rfl
/-- A device's candidates are c. -/
def Ab (s : DS) (c : Cs) : Prop := ∀ i, i < s.hard.length → cand s i = c i

theorem newest_cand (s : DS) (i : Nat) : newest s i = (cand s i).getLast?.getD ByteArray.empty := by
  unfold newest cand
  cases h : s.rows i with
  | nil => simp
  | cons a l =>
    rw [List.getLast?_cons_cons, List.getLast?_eq_some_getLast (by simp)]
    rfl
theorem cand_wr (s : DS) (j : Nat) (b : ByteArray) (i : Nat) : cand (wrS s j b) i = if i = j then cand s i ++ [b] else cand s i := by
  unfold cand wrS
  dsimp only
  by_cases h : i = j
  · subst h
    rw [if_pos rfl, setR_same]
    rfl
  · rw [if_neg h, setR_other _ _ (by omega)]
theorem flush_rows {s : DS} {i : Nat} (hi : i < s.hard.length) : (flushL s (looseF s)).rows i = [] := by
  refine flushL_nil_rows (looseF s) i s ?_
  by_cases hr : s.rows i = []
  · exact .inl hr
  · exact .inr ⟨⟨i, hi⟩, mem_looseF.2 hr, rfl⟩
theorem cand_fl {s : DS} {i : Nat} (hi : i < s.hard.length) : cand (flushL s (looseF s)) i = [newest s i] := by
  have h := newest_flushL (looseF s) i s rfl
  have hr := flush_rows hi
  rw [newest_none hr] at h
  rw [cand, hr, h]
theorem on_hard (s : DS) (o : DOp) : (o.on s).hard.length = s.hard.length := by
  cases o with
  | wr i b => rfl
  | fl => exact flushL_hard _ _
theorem Ab.on {s : DS} {c : Cs} (h : Ab s c) (o : DOp) : Ab (o.on s) (o.ab c) := by
  intro i hi
  rw [on_hard] at hi
  cases o with
  | wr j b =>
    show cand (wrS s j b) i = _
    rw [cand_wr, h i hi]
    rfl
  | fl =>
    show cand (flushL s (looseF s)) i = _
    rw [cand_fl hi, newest_cand, h i hi]
    rfl
theorem runO_hard : ∀ (l : List DOp) (s : DS), (runO s l).1.hard.length = s.hard.length
  | [], s => rfl
  | o :: l, s => by
    unfold runO
    split
    · rfl
    · rw [runO_hard l, on_hard]
theorem runO_ab : ∀ (l : List DOp) {s : DS} {c : Cs}, Ab s c → ∃ k, k ≤ l.length ∧ Ab (runO s l).1 (abL c (l.take k)) ∧ ((runO s l).2 = true → k = l.length)
  | [], s, c, h => ⟨0, Nat.le_refl _, h, fun _ => rfl⟩
  | o :: l, s, c, h => by
    unfold runO
    split
    · exact ⟨0, Nat.zero_le _, h, fun e => by cases e⟩
    · obtain ⟨k, h1, h2, h3⟩ := runO_ab l (h.on o)
      exact ⟨k + 1, by simp; omega, h2, fun e => by simp [h3 e]⟩
theorem flush_idle (s : DS) : (flushL s (looseF s)).armed = s.armed ∧ (flushL s (looseF s)).dead = s.dead ∧ (flushL s (looseF s)).left = s.left ∧ (flushL s (looseF s)).writes = s.writes := by
  have H : ∀ {n : Nat} (l : List (Fin n)) (s : DS), (flushL s l).armed = s.armed ∧ (flushL s l).dead = s.dead ∧ (flushL s l).left = s.left ∧ (flushL s l).writes = s.writes := by
    intro n l
    induction l with
    | nil => intro s; exact ⟨rfl, rfl, rfl, rfl⟩
    | cons i l ih =>
      intro s
      rw [flushL, List.foldl_cons, ← flushL]
      obtain ⟨a, b, c, d⟩ := ih (keepS s i.1 (s.rows i.1).length)
      rw [a, b, c, d]
      unfold keepS
      split <;> exact ⟨rfl, rfl, rfl, rfl⟩
  exact H _ _
/-- Without a fuse all is done. -/
theorem runO_free : ∀ (l : List DOp) {s : DS}, s.armed = false → s.dead = false → (runO s l).2 = true ∧ (runO s l).1.armed = false ∧ (runO s l).1.dead = false
  | [], s, h1, h2 => ⟨rfl, h1, h2⟩
  | o :: l, s, h1, h2 => by
    unfold runO
    rw [if_neg (by rw [h2]; decide)]
    refine runO_free l ?_ ?_
    · cases o with
      | wr i b => exact h1
      | fl => exact (flush_idle s).1.trans h1
    · cases o with
      | wr i b => show (if s.armed = true then _ else s.dead) = false; rw [h1]; exact h2
      | fl => exact (flush_idle s).2.1.trans h2

/-- How many of them write. -/
def wcount : List DOp → Nat
  | [] => 0
  | .wr _ _ :: l => wcount l + 1
  | .fl :: l => wcount l
theorem wcount_append (a b : List DOp) : wcount (a ++ b) = wcount a + wcount b := by
  induction a with
  | nil => simp [wcount]
  | cons o a ih => cases o <;> simp [wcount, ih] <;> omega
/-- Where an operation writes, there is a sector, and what it writes is one's bytes. -/
def DOp.fits (n : Nat) : DOp → Prop
  | .wr i b => i < n ∧ b.size = 64
  | .fl => True

/-- A device that is fit for what is done to it: at most B writes so far. -/
structure Okd (n B : Nat) (s : DS) : Prop where
  hard : s.hard.length = n
  l0 : 0 ≤ s.left
  l1 : s.left ≤ 1000
  al : s.armed = true → s.dead = false → 1 ≤ s.left
  w0 : 0 ≤ s.writes
  w1 : s.writes ≤ B
  rows : ∀ j, (s.rows j).length ≤ B
  sizes : ∀ i, i < n → ∀ b ∈ cand s i, b.size = 64
section
variable {n B : Nat} {s : DS}
theorem Okd.mono (h : Okd n B s) {C : Nat} (hc : B ≤ C) : Okd n C s := ⟨h.hard, h.l0, h.l1, h.al, h.w0, by have := h.w1; omega, fun j => Nat.le_trans (h.rows j) hc, h.sizes⟩
theorem Okd.wr (h : Okd n B s) (hd : s.dead = false) (i : Nat) (b : ByteArray) (hb : b.size = 64) : Okd n (B + 1) (wrS s i b) := by
  have h0 := h.w0
  have h1 := h.w1
  refine ⟨h.hard, ?_, ?_, ?_, ?_, ?_, ?_, ?_⟩
  · show 0 ≤ (if s.armed = true then s.left - 1 else s.left)
    have := h.l0
    split
    · rename_i ha
      have := h.al ha hd
      omega
    · exact this
  · show (if s.armed = true then s.left - 1 else s.left) ≤ 1000
    have := h.l1
    split <;> omega
  · intro ha hd'
    have ha' : s.armed = true := ha
    have hd2 : (if s.armed = true then decide (s.left - 1 = 0) else s.dead) = false := hd'
    rw [if_pos ha'] at hd2
    show 1 ≤ (if s.armed = true then s.left - 1 else s.left)
    rw [if_pos ha']
    have := h.al ha' hd
    have := of_decide_eq_false hd2
    omega
  · show 0 ≤ s.writes + 1
    omega
  · show s.writes + 1 ≤ ((B + 1 : Nat) : Int)
    push_cast
    omega
  · intro j
    have := h.rows j
    show (setR s.rows i (s.rows i ++ [b]) j).length ≤ B + 1
    by_cases hj : j = i
    · subst hj
      rw [setR_same, List.length_append]
      simp only [List.length_cons, List.length_nil]
      omega
    · rw [setR_other _ _ hj]
      omega
  · intro k hk x hx
    rw [cand_wr] at hx
    split at hx
    · rcases List.mem_append.1 hx with hx | hx
      · exact h.sizes k hk x hx
      · rw [List.mem_singleton] at hx
        rw [hx]; exact hb
    · exact h.sizes k hk x hx
theorem newest_mem (s : DS) (i : Nat) : newest s i ∈ cand s i := by
  unfold newest cand
  cases h : (s.rows i).getLast? with
  | none => exact List.mem_cons_self
  | some b => exact List.mem_cons_of_mem _ (List.mem_of_getLast? h)
theorem Okd.newest (h : Okd n B s) {i : Nat} (hi : i < n) : (newest s i).size = 64 := h.sizes i hi _ (newest_mem s i)
theorem Okd.fl (h : Okd n B s) : Okd n B (flushL s (looseF s)) := by
  obtain ⟨a, b, c, d⟩ := flush_idle s
  have hh : (flushL s (looseF s)).hard.length = n := (flushL_hard _ _).trans h.hard
  refine ⟨hh, by rw [c]; exact h.l0, by rw [c]; exact h.l1, by rw [a, b, c]; exact h.al, by rw [d]; exact h.w0, by rw [d]; exact h.w1, fun j => Nat.le_trans (flushL_rows _ _ j) (h.rows j), ?_⟩
  intro k hk x hx
  rw [cand_fl (by rw [h.hard]; exact hk), List.mem_singleton] at hx
  rw [hx]
  exact h.newest hk
theorem Okd.on (h : Okd n B s) (hd : s.dead = false) {o : DOp} (ho : o.fits n) : Okd n (B + wcount [o]) (o.on s) := by
  cases o with
  | wr i b => exact h.wr hd i b ho.2
  | fl => exact h.fl
theorem Okd.run (l : List DOp) : ∀ {B : Nat} {s : DS}, Okd n B s → (∀ o ∈ l, o.fits n) → Okd n (B + wcount l) (runO s l).1 := by
  induction l with
  | nil => intro B s h _; exact h
  | cons o l ih =>
    intro B s h hl
    unfold runO
    split
    · exact h.mono (by omega)
    · rename_i hd
      have := ih (h.on (by simpa using hd) (hl o (by simp))) (fun o' h' => hl o' (by simp [h']))
      have e : B + wcount [o] + wcount l = B + wcount (o :: l) := by cases o <;> simp [wcount] <;> omega
      rw [e] at this
      exact this
theorem Okd.fuse (h : Okd n B s) (k : Int) (h0 : 0 ≤ k) (h1 : k ≤ 1000) : Okd n B (fuseS s k) := by
  refine ⟨h.hard, h0, h1, ?_, h.w0, h.w1, h.rows, h.sizes⟩
  intro _ hd
  have hd' : (s.dead || decide (k = 0)) = false := hd
  show 1 ≤ k
  have : decide (k = 0) = false := by
    cases h' : decide (k = 0)
    · rfl
    · rw [h'] at hd'; simp at hd'
  have := of_decide_eq_false this
  omega
end

theorem cand_keep {s : DS} {j k : Nat} (hj : j < s.hard.length) (hk : k ≤ (s.rows j).length) (i : Nat) : ∀ b ∈ cand (keepS s j k) i, b ∈ cand s i := by
  intro b hb
  unfold keepS at hb
  split at hb
  · exact hb
  · rename_i h0
    unfold cand at hb ⊢
    dsimp only at hb
    by_cases h : i = j
    · subst h
      rw [setR_same, List.getD_eq_getElem?_getD, List.getElem?_set_self hj, Option.getD_some] at hb
      rcases List.mem_cons.1 hb with e | hb
      · refine List.mem_cons_of_mem _ ?_
        rw [e, List.getD_eq_getElem?_getD, List.getElem?_eq_getElem (by omega), Option.getD_some]
        exact List.getElem_mem _
      · exact List.mem_cons_of_mem _ (List.mem_of_mem_drop hb)
    · rw [setR_other _ _ (by omega), List.getD_eq_getElem?_getD, List.getElem?_set_ne (by omega), ← List.getD_eq_getElem?_getD] at hb
      exact hb
theorem cand_crash1 {s : DS} {j : Nat} (keep : ByteArray) (k : Nat) (hj : j < s.hard.length) (i : Nat) : ∀ b ∈ cand (crash1 keep k s j) i, b ∈ cand s i := by
  intro b hb
  unfold crash1 at hb
  dsimp only at hb
  have hsub : ∀ (s1 : DS), b ∈ cand { s1 with rows := setR s1.rows j [] } i → b ∈ cand s1 i := by
    intro s1 h
    unfold cand at h ⊢
    dsimp only at h
    by_cases e : i = j
    · subst e
      rw [setR_same] at h
      rw [List.mem_singleton] at h
      rw [h]
      exact List.mem_cons_self
    · rw [setR_other _ _ (by omega)] at h
      exact h
  have h1 := hsub _ hb
  split at h1
  · exact cand_keep hj (by have := Nat.mod_lt (keep.data.getD k 0).toNat (show 0 < (s.rows j).length + 1 by omega); omega) i b h1
  · exact h1
theorem cand_crashL {n : Nat} (keep : ByteArray) (l : List (Fin n)) : ∀ (k : Nat) (s : DS), s.hard.length = n → ∀ i, (∀ b ∈ cand (crashL keep k s l) i, b ∈ cand s i) ∧ ((s.rows i = [] ∨ ∃ a ∈ l, a.1 = i) → (crashL keep k s l).rows i = []) := by
  induction l with
  | nil =>
    intro k s _ i
    refine ⟨fun b hb => hb, fun h => ?_⟩
    rcases h with h | ⟨a, h, _⟩
    · exact h
    · cases h
  | cons a l ih =>
    intro k s hs i
    rw [crashL]
    obtain ⟨h1, h2⟩ := ih (k + 1) (crash1 keep k s a.1) (by rw [crash1_hard]; exact hs) i
    refine ⟨fun b hb => cand_crash1 keep k (by rw [hs]; exact a.2) i b (h1 b hb), fun h => h2 ?_⟩
    by_cases e : a.1 = i
    · left
      show setR _ _ [] _ = []
      rw [e, setR_same]
    · rcases h with h | ⟨c, hc, ec⟩
      · left
        have := crash1_rows keep k s a.1 i
        rw [h] at this
        exact List.eq_nil_of_length_eq_zero (by simpa using this)
      · rcases List.mem_cons.1 hc with rfl | hc
        · exact absurd ec e
        · exact .inr ⟨c, hc, ec⟩
/-- Behind a crash a sector is one of its candidates, and nothing is cached. -/
theorem crash_rows {s : DS} (keep : ByteArray) {i : Nat} (hi : i < s.hard.length) : (crashS keep s).rows i = [] := by
  show (crashL keep 0 s (looseF s)).rows i = []
  refine (cand_crashL keep (looseF s) 0 s rfl i).2 ?_
  by_cases hr : s.rows i = []
  · exact .inl hr
  · exact .inr ⟨⟨i, hi⟩, mem_looseF.2 hr, rfl⟩
theorem crash_cand {s : DS} (keep : ByteArray) {i : Nat} (hi : i < s.hard.length) : ∃ b ∈ cand s i, cand (crashS keep s) i = [b] := by
  have h1 := (cand_crashL keep (looseF s) 0 s rfl i).1 ((crashL keep 0 s (looseF s)).hard.getD i ByteArray.empty) List.mem_cons_self
  refine ⟨_, h1, ?_⟩
  rw [cand, crash_rows keep hi]
  rfl
theorem crash_hard (keep : ByteArray) (s : DS) : (crashS keep s).hard.length = s.hard.length := crashL_hard keep (looseF s) 0 s
theorem crash_writes (keep : ByteArray) (s : DS) : (crashS keep s).writes = s.writes := by
  have H1 : ∀ (k : Nat) (s : DS) (i : Nat), (crash1 keep k s i).writes = s.writes := by
    intro k s i
    unfold crash1 keepS
    dsimp only
    split <;> try rfl
    split <;> rfl
  have H : ∀ {n : Nat} (l : List (Fin n)) (k : Nat) (s : DS), (crashL keep k s l).writes = s.writes := by
    intro n l
    induction l with
    | nil => intro k s; rfl
    | cons i l ih => intro k s; rw [crashL, ih, H1]
  exact H (looseF s) 0 s
theorem Okd.crash {n B : Nat} {s : DS} (h : Okd n B s) (keep : ByteArray) : Okd n B (crashS keep s) := by
  refine ⟨(crash_hard keep s).trans h.hard, Int.le_refl _, by show (0 : Int) ≤ 1000; decide, (fun e => by cases e), by rw [crash_writes]; exact h.w0, by rw [crash_writes]; exact h.w1, fun j => Nat.le_trans (crashL_rows keep (looseF s) 0 s j) (h.rows j), ?_⟩
  intro i hi b hb
  obtain ⟨x, hx, e⟩ := crash_cand keep (i := i) (s := s) (by rw [h.hard]; exact hi)
  rw [e, List.mem_singleton] at hb
  rw [hb]
  exact h.sizes i hi x hx
/-- Nothing is cached. -/
def Clean (s : DS) (h : Nat → ByteArray) : Prop := ∀ i, i < s.hard.length → cand s i = [h i]
theorem Clean.ab {s : DS} {h : Nat → ByteArray} (c : Clean s h) : Ab s (fun i => [h i]) := c
theorem Clean.newest {s : DS} {h : Nat → ByteArray} (c : Clean s h) {i : Nat} (hi : i < s.hard.length) : newest s i = h i := by rw [newest_cand, c i hi]; rfl
theorem Clean.crash {s : DS} {h : Nat → ByteArray} (c : Clean s h) (keep : ByteArray) : Clean (crashS keep s) h := by
  intro i hi
  rw [crash_hard] at hi
  obtain ⟨b, hb, e⟩ := crash_cand keep hi
  rw [c i hi, List.mem_singleton] at hb
  rw [e, hb]
/-- What a crash leaves of candidates. -/
theorem Ab.crash {s : DS} {c : Cs} (h : Ab s c) (keep : ByteArray) : ∃ g : Nat → ByteArray, Clean (crashS keep s) g ∧ ∀ i, i < s.hard.length → g i ∈ c i := by
  refine ⟨fun i => (crashS keep s).hard.getD i ByteArray.empty, fun i hi => ?_, fun i hi => ?_⟩
  · rw [crash_hard] at hi
    rw [cand, crash_rows keep hi]
  · obtain ⟨b, hb, e⟩ := crash_cand keep hi
    rw [h i hi] at hb
    have : (crashS keep s).hard.getD i ByteArray.empty = b := by
      rw [cand, crash_rows keep hi] at e
      simpa using e
    show (crashS keep s).hard.getD i ByteArray.empty ∈ c i
    rw [this]
    exact hb
end Go.Proofs.Ytjjphcnoegaimaa
