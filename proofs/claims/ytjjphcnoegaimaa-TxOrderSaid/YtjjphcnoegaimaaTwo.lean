/- Two devices, each with a journal and a transaction, side by side; sectors that are put one behind the other. -/
import Derived.Test.YtjjphcnoegaimaaAlive08
namespace Go.Proofs.Ytjjphcnoegaimaa
open Go.RowKit Go.Shelf Go.Maps
set_option maxRecDepth 20000
set_option linter.unusedVariables false

section
variable {w0 w W W' : World} {X X1 X2 : Nat → Prop} {p jb N B fr n g r tb m : Nat} {s s' : DS} {M : Wl} {dn : Bool}
/-- What another device turns is nothing of this one. -/
theorem TJ.beside (h : TJ w0 X p jb N B fr n g r s tb m M dn W) {C : Nat → Prop} (hk : ∀ k, k < W.heap.size → ¬ C k → W'.heap[k]? = W.heap[k]?) (hC : ∀ k, C k → X k ∧ k ≠ jb ∧ k ≠ tb ∧ k ≠ m) (hB : Below w0.heap.size w0 W') :
    TJ w0 (fun k => (X k ∨ W.heap.size ≤ k) ∧ k < W'.heap.size) p jb N B fr n g r s tb m M dn W' := by
  have ej : W'.heap[jb]? = W.heap[jb]? := hk jb (blk_lt h.j.obj) (fun c => (hC jb c).2.1 rfl)
  have et : W'.heap[tb]? = W.heap[tb]? := hk tb (blk_lt h.t.obj) (fun c => (hC tb c).2.2.1 rfl)
  have em : W'.heap[m]? = W.heap[m]? := hk m h.t.mlt (fun c => (hC m c).2.2.2 rfl)
  obtain ⟨hb, hc, mm, L, h1, h2⟩ := h.j.dev.dev
  have h1' := h1.keep (W' := W') (fun k hf => hk k (h1.lt hf) (fun c => (h2 k hf).2 (hC k c).1))
  have ht' := h.t.keep et em
  refine ⟨⟨⟨⟨hb, hc, mm, L, h1', fun k hf => ⟨(h2 k hf).1, fun e => ?_⟩⟩, hB, fun k hx => hx.2⟩, h.j.ok, ej.trans h.j.obj, ⟨.inl h.j.own, blk_lt (ej.trans h.j.obj)⟩, h.j.ge⟩, ht', ⟨.inl h.xt, blk_lt ht'.obj⟩, ⟨.inl h.xm, ht'.mlt⟩, h.gt, h.gm⟩
  rcases e.1 with e | e
  · exact (h2 k hf).2 e
  · have := h1.lt hf; omega

/-- Two transactions. -/
structure Two (w : World) (p1 j1 t1 m1 : Nat) (B1 g1 : Nat) (s1 : DS) (M1 : Wl) (d1 : Bool) (p2 j2 t2 m2 : Nat) (B2 g2 : Nat) (s2 : DS) (M2 : Wl) (d2 : Bool) (W : World) (X1 X2 : Nat → Prop) : Prop where
  a : TJ w X1 p1 j1 40 B1 4 12 g1 0 s1 t1 m1 M1 d1 W
  b : TJ w X2 p2 j2 40 B2 4 12 g2 0 s2 t2 m2 M2 d2 W
  all : ∀ k, w.heap.size ≤ k → k < W.heap.size → X1 k ∨ X2 k
  xa : X1 j2 ∧ X1 t2 ∧ X1 m2
  xb : X2 j1 ∧ X2 t1 ∧ X2 m1
  ne : (j1 ≠ j2 ∧ j1 ≠ t2 ∧ j1 ≠ m2) ∧ (t1 ≠ j2 ∧ t1 ≠ t2 ∧ t1 ≠ m2) ∧ (m1 ≠ j2 ∧ m1 ≠ t2 ∧ m1 ≠ m2)
variable {p1 j1 t1 m1 p2 j2 t2 m2 B1 B2 g1 g2 B1' g1' B2' g2' : Nat} {s1 s2 s1' s2' : DS} {M1 M2 M1' M2' : Wl} {d1 d2 d1' d2' : Bool}
theorem Two.take (h : Two w p1 j1 t1 m1 B1 g1 s1 M1 d1 p2 j2 t2 m2 B2 g2 s2 M2 d2 W X1 X2) (hB : Below W.heap.size W W') :
    Two w p1 j1 t1 m1 B1 g1 s1 M1 d1 p2 j2 t2 m2 B2 g2 s2 M2 d2 W' (fun k => X1 k ∨ W.heap.size ≤ k ∧ k < W'.heap.size) (fun k => X2 k ∨ W.heap.size ≤ k ∧ k < W'.heap.size) := by
  refine ⟨h.a.take hB, h.b.take hB, fun k h1 h2 => ?_, ⟨.inl h.xa.1, .inl h.xa.2.1, .inl h.xa.2.2⟩, ⟨.inl h.xb.1, .inl h.xb.2.1, .inl h.xb.2.2⟩, h.ne⟩
  by_cases e : k < W.heap.size
  · exact (h.all k h1 e).imp .inl .inl
  · exact .inl (.inr ⟨by omega, h2⟩)
/-- The first one goes on. -/
theorem Two.stepA (h : Two w p1 j1 t1 m1 B1 g1 s1 M1 d1 p2 j2 t2 m2 B2 g2 s2 M2 d2 W X1 X2) (h' : TJ w X1 p1 j1 40 B1' 4 12 g1' 0 s1' t1 m1 M1' d1' W') (hk : ∀ k, (k < w.heap.size ∨ X1 k) → k ≠ j1 → k ≠ t1 → k ≠ m1 → W'.heap[k]? = W.heap[k]?) :
    Two w p1 j1 t1 m1 B1' g1' s1' M1' d1' p2 j2 t2 m2 B2 g2 s2 M2 d2 W' X1 (fun k => (X2 k ∨ W.heap.size ≤ k) ∧ k < W'.heap.size) := by
  have hb := h.b.beside (W' := W') (C := fun k => w.heap.size ≤ k ∧ k < W.heap.size ∧ (¬ X1 k ∨ k = j1 ∨ k = t1 ∨ k = m1)) (fun k h1 hc => ?_) (fun k hc => ?_) h'.j.dev.below
  · refine ⟨h', hb, fun k h1 h2 => ?_, h.xa, ⟨⟨.inl h.xb.1, blk_lt h'.j.obj⟩, ⟨.inl h.xb.2.1, blk_lt h'.t.obj⟩, ⟨.inl h.xb.2.2, h'.t.mlt⟩⟩, h.ne⟩
    by_cases e : k < W.heap.size
    · exact (h.all k h1 e).imp id (fun x => ⟨.inl x, h2⟩)
    · exact .inr ⟨.inr (by omega), h2⟩
  · have hj := blk_lt h.a.j.obj
    by_cases e : k < w.heap.size
    · have g1 := h.a.j.ge
      have g2 := h.a.gt
      have g3 := h.a.gm
      exact hk k (.inl e) (by omega) (by omega) (by omega)
    · have hx : X1 k ∧ k ≠ j1 ∧ k ≠ t1 ∧ k ≠ m1 := by
        refine ⟨Classical.byContradiction fun x => hc ⟨by omega, h1, .inl x⟩, fun x => hc ⟨by omega, h1, .inr (.inl x)⟩, fun x => hc ⟨by omega, h1, .inr (.inr (.inl x))⟩, fun x => hc ⟨by omega, h1, .inr (.inr (.inr x))⟩⟩
      exact hk k (.inr hx.1) hx.2.1 hx.2.2.1 hx.2.2.2
  · obtain ⟨c1, c2, c3⟩ := hc
    rcases c3 with c3 | rfl | rfl | rfl
    · exact ⟨(h.all k c1 c2).resolve_left c3, fun e => c3 (by rw [e]; exact h.xa.1), fun e => c3 (by rw [e]; exact h.xa.2.1), fun e => c3 (by rw [e]; exact h.xa.2.2)⟩
    · exact ⟨h.xb.1, h.ne.1⟩
    · exact ⟨h.xb.2.1, h.ne.2.1⟩
    · exact ⟨h.xb.2.2, h.ne.2.2⟩
theorem Two.swap (h : Two w p1 j1 t1 m1 B1 g1 s1 M1 d1 p2 j2 t2 m2 B2 g2 s2 M2 d2 W X1 X2) : Two w p2 j2 t2 m2 B2 g2 s2 M2 d2 p1 j1 t1 m1 B1 g1 s1 M1 d1 W X2 X1 := by
  obtain ⟨⟨a1, a2, a3⟩, ⟨b1, b2, b3⟩, c1, c2, c3⟩ := h.ne
  exact ⟨h.b, h.a, fun k x y => (h.all k x y).symm, h.xb, h.xa, ⟨a1.symm, b1.symm, c1.symm⟩, ⟨a2.symm, b2.symm, c2.symm⟩, a3.symm, b3.symm, c3.symm⟩

theorem snocRec {P : Puts → Prop} (h0 : P []) (h1 : ∀ l x, P l → P (l ++ [x])) (l : Puts) : P l := by
  have H : ∀ l : Puts, P l.reverse := by
    intro l
    induction l with
    | nil => exact h0
    | cons x l ih => rw [List.reverse_cons]; exact h1 _ x ih
  have := H l.reverse
  rwa [List.reverse_reverse] at this
/-- Sectors put, one behind the other. -/
def putsOf (l : Puts) : Wl := l.foldl (fun M x => pins (x.1 : Int) x.2 M) []
theorem putsOf_snoc (l : Puts) (x : Nat × ByteArray) : putsOf (l ++ [x]) = pins (x.1 : Int) x.2 (putsOf l) := by simp [putsOf]
theorem putsOf_rising (l : Puts) : Rising (putsOf l) := by
  refine snocRec (P := fun l => Rising (putsOf l)) List.Pairwise.nil (fun l x ih => ?_) l
  rw [putsOf_snoc]; exact pins_rising _ _ ih
theorem putsOf_length (l : Puts) : (putsOf l).length ≤ l.length := by
  refine snocRec (P := fun l => (putsOf l).length ≤ l.length) (Nat.le_refl _) (fun l x ih => ?_) l
  rw [putsOf_snoc, pins_length _ _ (putsOf_rising l), List.length_append]
  show _ ≤ l.length + 1
  split <;> omega
theorem putsOf_get (l : Puts) : (l.map Prod.fst).Nodup → ∀ (j : Int) (b : ByteArray), pget j (putsOf l) = some b ↔ ∃ x ∈ l, (x.1 : Int) = j ∧ x.2 = b := by
  refine snocRec (P := fun l => (l.map Prod.fst).Nodup → ∀ (j : Int) (b : ByteArray), pget j (putsOf l) = some b ↔ ∃ x ∈ l, (x.1 : Int) = j ∧ x.2 = b) (by intro _ j b; simp [putsOf, pget]) (fun l x ih => ?_) l
  intro hn j b
  rw [List.map_append, List.nodup_append] at hn
  have ih := ih hn.1 j b
  rw [putsOf_snoc, pins_get]
  by_cases e : j = (x.1 : Int)
  · rw [if_pos e]
    constructor
    · intro h
      exact ⟨x, by simp, e.symm, by simpa using h⟩
    · rintro ⟨y, hy, h1, h2⟩
      rcases List.mem_append.1 hy with hy | hy
      · exfalso
        have := hn.2.2 y.1 (List.mem_map.2 ⟨y, hy, rfl⟩) x.1 (by simp)
        omega
      · rw [List.mem_singleton] at hy
        rw [← h2, hy]
  · rw [if_neg e, ih]
    constructor
    · rintro ⟨y, hy, h1⟩
      exact ⟨y, by simp [hy], h1⟩
    · rintro ⟨y, hy, h1⟩
      rcases List.mem_append.1 hy with hy | hy
      · exact ⟨y, hy, h1⟩
      · rw [List.mem_singleton] at hy
        subst hy
        exact absurd h1.1.symm e
theorem putsOf_reverse (l : Puts) (hn : (l.map Prod.fst).Nodup) : putsOf l.reverse = putsOf l := by
  have hn' : (l.reverse.map Prod.fst).Nodup := by rw [List.map_reverse, List.Nodup, List.pairwise_reverse]; exact hn.imp (fun h => h.symm)
  refine Rising.ext (putsOf_rising _) (putsOf_rising _) (fun k => ?_)
  have h : ∀ b, pget k (putsOf l.reverse) = some b ↔ pget k (putsOf l) = some b := fun b => by
    rw [putsOf_get _ hn', putsOf_get _ hn]
    simp
  cases h1 : pget k (putsOf l.reverse) with
  | some b => exact ((h b).1 h1).symm
  | none =>
    cases h2 : pget k (putsOf l) with
    | none => rfl
    | some b => rw [(h b).2 h2] at h1; cases h1
theorem putsOf_mem {l : Puts} {y : Int × ByteArray} : y ∈ putsOf l → ∃ x ∈ l, (x.1 : Int) = y.1 ∧ x.2 = y.2 := by
  refine snocRec (P := fun l => y ∈ putsOf l → ∃ x ∈ l, (x.1 : Int) = y.1 ∧ x.2 = y.2) (fun hy => by cases hy) (fun l x ih hy => ?_) l
  rw [putsOf_snoc] at hy
  rcases pins_keys _ _ _ y hy with e | hy
  · exact ⟨x, by simp, by rw [e], by rw [e]⟩
  · obtain ⟨z, hz, h⟩ := ih hy
    exact ⟨z, by simp [hz], h⟩
/-- Such sectors as a transaction of the journal. -/
theorem putsOf_may (P : Puts) (h : ∀ x ∈ P, 16 ≤ x.1 ∧ x.1 < 40 ∧ x.2.size = 64) (hl : P.length ≤ 10) : ∃ l : Puts, zP l = putsOf P ∧ MayP 40 4 12 l := by
  have hl2 := putsOf_length P
  have hm : ∀ y ∈ putsOf P, 16 ≤ y.1 ∧ y.1 < 40 ∧ y.2.size = 64 := fun y hy => by
    obtain ⟨x, hx, e1, e2⟩ := putsOf_mem hy
    have := h x hx
    exact ⟨by omega, by omega, by rw [← e2]; exact this.2.2⟩
  generalize putsOf P = M at *
  refine ⟨M.map fun x => (x.1.toNat, x.2), ?_, by decide, by decide, ?_, ?_⟩
  · rw [zP, List.map_map]
    conv => rhs; rw [← List.map_id M]
    refine List.map_congr_left (fun x hx => ?_)
    have := hm x hx
    show (((x.1.toNat : Nat) : Int), x.2) = x
    rw [show ((x.1.toNat : Nat) : Int) = x.1 by omega]
  · rw [List.length_map]
    have : places M.length ≤ 1 := by unfold places; omega
    omega
  · intro y hy
    obtain ⟨x, hx, rfl⟩ := List.mem_map.1 hy
    have := hm x hx
    dsimp only
    exact ⟨by omega, .inr (by omega), this.2.2⟩

/-- A commit on a new device. -/
theorem commitN {l : Puts} (h : TJ w X p jb 40 0 4 12 0 0 (newS 40) tb m (zP l) false W) (mp : MayP 40 4 12 l) :
    Calls Try.prog 52 #[.pointer (some ⟨tb, 0, none⟩)] W fun e W' => ∃ (s' : DS) (g' : Nat) (h' : Nat → ByteArray), e = .returned (.tuple #[.int .u64 (if l = [] then 0 else 1), .int .i64 0]) ∧ TJ w X p jb 40 600 4 12 g' 0 s' tb m (zP l) true W' ∧ (∀ k, (k < w.heap.size ∨ X k) → k ≠ jb → k ≠ tb → k ≠ m → W'.heap[k]? = W.heap[k]?) ∧
      s'.dead = false ∧ (∀ i, i < 40 → newest s' i = h' i) ∧ (∀ i, Out 40 4 12 i → h' i = laid (fun _ => zsec) l i) := by
  have hwc := mp.wc (by decide) (0 + 1)
  have hTM : ∀ {B' g'}, ∀ {s' : DS} {W' : World}, TJ w X p jb 40 B' 4 12 g' 0 s' tb m (zP l) true W' → B' ≤ 600 → TJ w X p jb 40 600 4 12 g' 0 s' tb m (zP l) true W' := fun a hb => ⟨a.j.mono hb, a.t, a.xt, a.xm, a.gt, a.gm⟩
  obtain ⟨hok, h', j1, j2⟩ := commit_free mp (newS_JL 40 4) (by decide)
  refine (tx_commit l h most_12 mp (by decide) (by omega)).mono ?_
  rintro e W' (⟨hl, rfl, a, b⟩ | ⟨hl, _, rfl, a, b⟩ | ⟨hl, hno, -⟩)
  · refine ⟨_, _, _, by rw [if_pos hl]; rfl, hTM a (by omega), fun k hk x1 x2 x3 => b k (hk.imp id (fun h => ⟨h, x2⟩)), rfl, fun i hi => (newS_JL 40 4).newest hi, fun i _ => ?_⟩
    rw [hl]; rfl
  · exact ⟨_, _, h', by rw [if_neg hl]; rfl, hTM a (by omega), fun k hk x1 x2 x3 => b k (hk.imp id (fun h => ⟨h, x2, x1⟩)), j1.dead, fun i hi => j1.newest hi, j2⟩
  · rw [hok] at hno; cases hno
end
end Go.Proofs.Ytjjphcnoegaimaa
