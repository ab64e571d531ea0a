/- Devices side by side, and an array of rows of texts of the caller's own: one predicate of a world. -/
import Derived.Test.YtjjphcnoegaimaaDevO
import Derived.Test.YtjjphcnoegaimaaDevY
namespace Go.Proofs.Ytjjphcnoegaimaa
open Go.RowKit Go.Shelf Go.Maps
set_option maxRecDepth 20000
set_option linter.unusedVariables false
set_option linter.unusedSimpArgs false

section
variable {w W W' : World} {L : List (Nat × DS)} {Y : Nat → Prop} {X : Nat → Nat → Prop}
/-- Devices side by side: whose block is whose. -/
structure Fam (w : World) (L : List (Nat × DS)) (Y : Nat → Prop) (X : Nat → Nat → Prop) (W : World) : Prop where
  pos : 0 < L.length
  dv : ∀ j x, L[j]? = some x → DvO w (X j) x.1 x.2 W
  ap : ∀ i j, i < L.length → j < L.length → i ≠ j → ∀ k, w.heap.size ≤ k → k < W.heap.size → X i k ∨ X j k
  ow : ∀ j k, j < L.length → Y k → X j k
theorem Fam.below (h : Fam w L Y X W) : Below w.heap.size w W := (h.dv 0 _ (List.getElem?_eq_getElem h.pos)).below
theorem Fam.lt (h : Fam w L Y X W) {k : Nat} (hk : Y k) : k < W.heap.size := (h.dv 0 _ (List.getElem?_eq_getElem h.pos)).lt k (h.ow 0 k h.pos hk)
theorem Fam.take (h : Fam w L Y X W) (hB : Below W.heap.size W W') : Fam w L (fun k => Y k ∨ W.heap.size ≤ k ∧ k < W'.heap.size) (fun j k => X j k ∨ W.heap.size ≤ k ∧ k < W'.heap.size) W' := by
  refine ⟨h.pos, fun j x hx => (h.dv j x hx).take hB, fun i j hi hj hij k h0 h1 => ?_, fun j k hj hk => hk.imp (h.ow j k hj) id⟩
  by_cases hk : k < W.heap.size
  · exact (h.ap i j hi hj hij k h0 hk).imp .inl .inl
  · exact .inl (.inr ⟨by omega, h1⟩)
/-- A block of the caller's own turns. -/
theorem Fam.mine (h : Fam w L Y X W) {A : Nat} (hA : Y A) (hge : w.heap.size ≤ A) (hs : W'.heap.size = W.heap.size) (hk : ∀ k, k ≠ A → W'.heap[k]? = W.heap[k]?) (hB : Below w.heap.size w W') : Fam w L Y X W' := by
  refine ⟨h.pos, fun j x hx => ?_, fun i j hi hj hij k h0 h1 => h.ap i j hi hj hij k h0 (by omega), h.ow⟩
  have hj : j < L.length := (List.getElem?_eq_some_iff.1 hx).1
  have hd := h.dv j x hx
  obtain ⟨hb, hc, m, M, h1, h2⟩ := hd.dev
  exact ⟨⟨hb, hc, m, M, h1.keep (fun k hf => hk k (fun e => (h2 k hf).2 (by rw [e]; exact h.ow j A hj hA))), h2⟩, hB, fun k hx => by rw [hs]; exact hd.lt k hx⟩
/-- One goes on. -/
theorem Fam.step (h : Fam w L Y X W) {j p : Nat} {s s' : DS} (hj : L[j]? = some (p, s)) (hd : DvO w (X j) p s' W') (hk : KX (X j) W W') :
    Fam w (L.set j (p, s')) Y (fun i k => if i = j then X j k else (X i k ∨ W.heap.size ≤ k) ∧ k < W'.heap.size) W' := by
  have hjl : j < L.length := (List.getElem?_eq_some_iff.1 hj).1
  refine ⟨by simpa using h.pos, fun i x hx => ?_, fun i i2 hi hi2 hne k h0 h1 => ?_, fun i k hi hy => ?_⟩
  · by_cases e : i = j
    · subst e
      rw [List.getElem?_set_self hjl] at hx
      cases hx
      simp only [if_pos]
      exact hd
    · rw [List.getElem?_set_ne (fun x => e x.symm)] at hx
      simp only [if_neg e]
      have hil : i < L.length := (List.getElem?_eq_some_iff.1 hx).1
      have hdi := h.dv i x hx
      obtain ⟨hb, hc, m, M, h1, h2⟩ := hdi.dev
      refine ⟨⟨hb, hc, m, M, h1.keep (fun k hf => hk k ?_), fun k hf => ⟨(h2 k hf).1, fun e' => ?_⟩⟩, hd.below, fun k hx => hx.2⟩
      · exact (h.ap i j hil hjl e k (h2 k hf).1 (h1.lt hf)).resolve_left (h2 k hf).2
      · rcases e'.1 with e' | e'
        · exact (h2 k hf).2 e'
        · have := h1.lt hf; omega
  · simp only [List.length_set] at hi hi2
    by_cases hk : k < W.heap.size
    · have := h.ap i i2 hi hi2 hne k h0 hk
      refine this.imp (fun hx => ?_) (fun hx => ?_)
      · split
        · rename_i e; subst e; exact hx
        · exact ⟨.inl hx, h1⟩
      · split
        · rename_i e; subst e; exact hx
        · exact ⟨.inl hx, h1⟩
    · by_cases e : i = j
      · right
        rw [if_neg (by omega)]
        exact ⟨.inr (by omega), h1⟩
      · left
        rw [if_neg e]
        exact ⟨.inr (by omega), h1⟩
  · simp only [List.length_set] at hi
    split
    · rename_i e; subst e; exact h.ow _ k hi hy
    · exact ⟨.inl (h.ow i k hi hy), hd.lt k (h.ow j k hjl hy)⟩
/-- One more, all of it new. -/
theorem Fam.add (h : Fam w L Y X W) (hB : Below W.heap.size W W') {p hb hc m : Nat} {M : List (Int × Value)} {s : DS} (hd : DevAt W' p hb hc m M s) (hf : ∀ k, dfoot p hb m M k → W.heap.size ≤ k) :
    Fam w (L ++ [(p, s)]) Y (fun j k => if j = L.length then k < W.heap.size else X j k ∨ W.heap.size ≤ k ∧ k < W'.heap.size) W' := by
  have hws := h.below.size
  refine ⟨by simp, fun j x hx => ?_, fun i j hi hj hij k h0 h1 => ?_, fun j k hj hy => ?_⟩
  · by_cases e : j = L.length
    · subst e
      simp at hx
      subst hx
      simp only [if_pos]
      exact ⟨⟨hb, hc, m, M, hd, fun k hk => ⟨Nat.le_trans hws (hf k hk), fun e => by have := hf k hk; omega⟩⟩, bt h.below hB, fun k hk => Nat.lt_of_lt_of_le hk hB.size⟩
    · have hjl : j < L.length := by
        have := (List.getElem?_eq_some_iff.1 hx).1
        simp at this
        omega
      rw [List.getElem?_append_left hjl] at hx
      simp only [if_neg e]
      exact (h.dv j x hx).take hB
  · simp at hi hj
    by_cases hk : k < W.heap.size
    · by_cases e : i = L.length
      · left; rw [if_pos e]; exact hk
      · by_cases e2 : j = L.length
        · right; rw [if_pos e2]; exact hk
        · rw [if_neg e, if_neg e2]
          exact (h.ap i j (by omega) (by omega) hij k h0 hk).imp .inl .inl
    · by_cases e : i = L.length
      · right; rw [if_neg (by omega)]; exact .inr ⟨by omega, h1⟩
      · left; rw [if_neg e]; exact .inr ⟨by omega, h1⟩
  · simp at hj
    by_cases e : j = L.length
    · rw [if_pos e]; exact h.lt hy
    · rw [if_neg e]; exact .inl (h.ow j k (by omega) hy)

/-- An array of sixteen rows of texts, at block A. -/
def Rows (A : Nat) (f : Nat → List ByteArray) (Y : Nat → Prop) (W : World) : Prop :=
  ∃ cs : List Value, W.heap[A]? = some (.cells cs.toArray 47 (0, 0)) ∧ cs.length = 16 ∧ Y A ∧ ∀ i v, cs[i]? = some v → W.ownsRow 0 9 1 v (f i).length (sv (f i)) ∧ ∀ k, v.ownBlock = some k → Y k ∧ k ≠ A
variable {A : Nat} {f : Nat → List ByteArray}
theorem Rows.of (h : Rows A f Y W) {Z : Nat → Prop} (hY : ∀ k, Y k → Z k) (hk : ∀ k, Y k → W'.heap[k]? = W.heap[k]?) : Rows A f Z W' := by
  obtain ⟨cs, h1, h2, h3, h4⟩ := h
  exact ⟨cs, (hk A h3).trans h1, h2, hY A h3, fun i v hv => ⟨ownsRow_of_block (h4 i v hv).1 (fun k e => hk k ((h4 i v hv).2 k e).1), fun k e => ⟨hY k ((h4 i v hv).2 k e).1, ((h4 i v hv).2 k e).2⟩⟩⟩
/-- One of its rows. -/
theorem Rows.row (h : Rows A f Y W) {i : Nat} (hi : i < 16) : ∃ v, W.cell? ⟨A, i, none⟩ = some v ∧ W.frozen? ⟨A, i, none⟩ = false ∧ W.ownsRow 0 9 1 v (f i).length (sv (f i)) := by
  obtain ⟨cs, h1, h2, h3, h4⟩ := h
  have hv : cs[i]? = some (cs[i]'(by omega)) := List.getElem?_eq_getElem (by omega)
  exact ⟨_, by rw [cl_of h1]; simp [hv], fz_of h1 i, (h4 i _ hv).1⟩
theorem row_form {v : Value} {l : List ByteArray} (h : W.ownsRow 0 9 1 v l.length (sv l)) (hl : l ≠ []) : ∃ g c, v = .slice (some ⟨g, 0, none⟩) l.length c ∧ g < W.heap.size ∧ l.length ≤ c ∧ c ≤ maxLen ∧ ∀ j b, l[j]? = some b → W.cell? ⟨g, j, none⟩ = some (.string b) := by
  have hp : 0 < l.length := List.length_pos_iff.2 hl
  have h' := h
  rcases h.2 with ⟨-, h0⟩ | ⟨g, c, cur, rfl, h0, hh, hnc, hcm, hr⟩
  · omega
  · exact ⟨g, c, rfl, blk_lt hh, hnc, hcm, fun j b hj => ownsRow_cell h' rfl (sv_get hj)⟩
def updN (f : Nat → List ByteArray) (i : Nat) (l : List ByteArray) : Nat → List ByteArray := fun j => if j = i then l else f j

/-- Devices and rows. -/
def CrS (w : World) (A : Nat) (f : Nat → List ByteArray) (L : List (Nat × DS)) (W : World) : Prop := ∃ Y X, Fam w L Y X W ∧ Rows A f Y W ∧ w.heap.size ≤ A
theorem CrS.below (h : CrS w A f L W) : Below w.heap.size w W := by
  obtain ⟨Y, X, h1, -⟩ := h
  exact h1.below
theorem CrS.of (h : CrS w A f L W) (hB : Below W.heap.size W W') : CrS w A f L W' := by
  obtain ⟨Y, X, h1, h2, h3⟩ := h
  exact ⟨_, _, h1.take hB, h2.of (fun k hk => .inl hk) (fun k hk => hB.block k (h1.lt hk)), h3⟩
theorem CrS.drew (h : CrS w A f L W) : CrS w A f L W.drew := h.of (Below.refl _ _).drew
theorem CrS.row (h : CrS w A f L W) {i : Nat} (hi : i < 16) : ∃ v, W.cell? ⟨A, i, none⟩ = some v ∧ W.frozen? ⟨A, i, none⟩ = false ∧ W.ownsRow 0 9 1 v (f i).length (sv (f i)) := by
  obtain ⟨Y, X, h1, h2, h3⟩ := h
  exact h2.row hi
theorem CrS.alt (h : CrS w A f L W) : A < W.heap.size := by
  obtain ⟨Y, X, h1, ⟨cs, h2, -⟩, h3⟩ := h
  exact blk_lt h2
/-- A row is put. -/
theorem CrS.put (h : CrS w A f L W) (hB : Below W.heap.size W W') {v : Value} {l : List ByteArray} (hrow : W'.ownsRow W.heap.size 9 1 v l.length (sv l)) {i : Nat} (hi : i < 16) : CrS w A (updN f i l) L (W'.setCell ⟨A, i, none⟩ v) := by
  have hal := h.alt
  obtain ⟨Y, X, h1, h2, h3⟩ := h
  have hF := h1.take hB
  have h2' := h2.of (Z := fun k => Y k ∨ W.heap.size ≤ k ∧ k < W'.heap.size) (fun k hk => .inl hk) (fun k hk => hB.block k (h1.lt hk))
  have hx : ∀ k, k ≠ A → (W'.setCell ⟨A, i, none⟩ v).heap[k]? = W'.heap[k]? := fun k hk => Below.heap_setCell W' _ _ k hk
  have hYA : Y A := by obtain ⟨cs, g1, g2, g3, g4⟩ := h2; exact g3
  refine ⟨_, _, hF.mine (.inl hYA) h3 (by simp [World.setCell]) hx (hF.below.setCell h3 _), ?_, h3⟩
  obtain ⟨cs, g1, g2, g3, g4⟩ := h2'
  refine ⟨cs.set i v, by rw [blk_here g1 i v]; simp, by simpa using g2, g3, fun j u hu => ?_⟩
  by_cases e : j = i
  · subst e
    rw [List.getElem?_set_self (by omega)] at hu
    cases hu
    have e2 : updN f j l j = l := by simp [updN]
    have hb : ∀ k, v.ownBlock = some k → W.heap.size ≤ k ∧ k < W'.heap.size := by
      intro k hk
      rcases hrow.2 with ⟨rfl, -⟩ | ⟨g, c, cur, rfl, h0, hh, hr⟩
      · cases hk
      · cases hk
        exact ⟨h0, blk_lt hh⟩
    rw [e2]
    refine ⟨ownsRow_of_block (ownsRow_base hrow) (fun k hk => hx k (fun e => ?_)), fun k hk => ⟨.inr (hb k hk), fun e => ?_⟩⟩
    · have := (hb k hk).1
      omega
    · have := (hb k hk).1
      omega
  · rw [List.getElem?_set_ne (fun x => e x.symm)] at hu
    have e2 : updN f i l j = f j := by simp [updN, e]
    rw [e2]
    exact ⟨ownsRow_of_block (g4 j u hu).1 (fun k hk => hx k (((g4 j u hu).2 k hk).2)), fun k hk => (g4 j u hu).2 k hk⟩
/-- A new array beside a device. -/
theorem CrS.start {p : Nat} {s : DS} {W : World} (h : DvO w (fun _ => False) p s W) (vs : Array Value) (hvs : vs = (List.replicate 16 (Value.slice none 0 0)).toArray) : CrS w W.heap.size (fun _ => []) [(p, s)] (W.alloc (.cells vs 47)) := by
  subst hvs
  have hB := bnew W (.cells (List.replicate 16 (Value.slice none 0 0)).toArray 47)
  have ht := h.take hB
  refine ⟨fun k => W.heap.size ≤ k ∧ k < (W.alloc (.cells (List.replicate 16 (Value.slice none 0 0)).toArray 47)).heap.size, fun _ k => False ∨ W.heap.size ≤ k ∧ k < (W.alloc (.cells (List.replicate 16 (Value.slice none 0 0)).toArray 47)).heap.size, ⟨by simp, fun j x hx => ?_, fun i j hi hj hij => ?_, fun j k hj hk => .inr hk⟩, ⟨_, hp_new _ _ rfl, by simp, ⟨Nat.le_refl _, by simp⟩, fun i v hv => ?_⟩, h.below.size⟩
  · cases j with
    | zero => simp at hx; subst hx; exact ht
    | succ j => simp at hx
  · simp at hi hj
    omega
  · have : v = .slice none 0 0 := by
      have := List.mem_of_getElem? hv
      simpa using this
    subst this
    exact ⟨⟨rfl, .inl ⟨rfl, rfl⟩⟩, fun k hk => by cases hk⟩
/-- A new row of one text. -/
theorem own_one (W : World) (b : ByteArray) : (W.alloc (.cells #[.string b] 9)).ownsRow W.heap.size 9 1 (.slice (some ⟨W.heap.size, 0, none⟩) 1 1) [b].length (sv [b]) :=
  ⟨rfl, .inr ⟨_, 1, _, rfl, Nat.le_refl _, hp_new _ _ rfl, Nat.le_refl _, by decide, rfl, rfl⟩⟩
/-- One of the devices goes on. -/
theorem CrS.lens (h : CrS w A f L W) {j p : Nat} {s : DS} (hj : L[j]? = some (p, s)) : ∃ X, DvO w X p s W ∧ X A ∧ ∀ s' W', DvO w X p s' W' → KX X W W' → CrS w A f (L.set j (p, s')) W' := by
  obtain ⟨Y, X, h1, h2, h3⟩ := h
  have hYA : Y A := by obtain ⟨cs, g1, g2, g3, g4⟩ := h2; exact g3
  refine ⟨X j, h1.dv j _ hj, h1.ow j A (List.getElem?_eq_some_iff.1 hj).1 hYA, fun s' W' hd hk => ⟨Y, _, h1.step hj hd hk, h2.of (fun k hk => hk) (fun k hy => hk k (h1.ow j k (List.getElem?_eq_some_iff.1 hj).1 hy)), h3⟩⟩
/-- A copy of one. -/
theorem cr_copy (h : CrS w A f L W) {j p : Nat} {s : DS} (hj : L[j]? = some (p, s)) (hrw : ∀ j, (s.rows j).length ≤ 100000) : Calls Try.prog 26 #[.pointer (some ⟨p, 0, none⟩)] W fun e W' => ∃ p', e = .returned (.pointer (some ⟨p', 0, none⟩)) ∧ CrS w A f (L ++ [(p', s)]) W' := by
  obtain ⟨Y, X, h1, h2, h3⟩ := h
  obtain ⟨hb, hc, m, M, g1, g2⟩ := (h1.dv j _ hj).dev
  have hM : M.length ≤ maxLen := by
    have e : M.length = (looseOf s).length := by
      rw [← g1.keys]
      simp
    have e2 := looseOf_length s
    have e3 : s.hard.length ≤ 4096 := g1.pos.2
    unfold maxLen
    omega
  refine (dev_copy g1 hrw hM).mono ?_
  rintro e W' ⟨p', hb', hc', m', M', rfl, hd, hB, hf⟩
  exact ⟨p', rfl, Y, _, h1.add hB hd hf, h2.of (fun k hk => hk) (fun k hy => hB.block k (h1.lt hy)), h3⟩
end
end Go.Proofs.Ytjjphcnoegaimaa
