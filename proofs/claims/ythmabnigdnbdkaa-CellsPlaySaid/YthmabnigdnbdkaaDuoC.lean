/- Cells and the document's beside them: the steps of CellsPlay; where two cores clash, the same of both. -/
import Derived.Test.YthmabnigdnbdkaaDuo
import Derived.Test.YthmabnigdnbdkaaCopyC
import Derived.Test.YthmabnigdnbdkaaRClash2
namespace Go.Proofs.Ythmabnigdnbdkaa
open Go.RowKit
set_option maxRecDepth 20000
set_option linter.unusedSimpArgs false
set_option linter.unusedVariables false

/-! Plain: the row of clashes. -/
theorem rcl_symm {S : List Touch} {a b c : Int} (h : rcl S a b c) : rcl S b a c := by
  obtain ⟨x, hx, y, hy, h1, h2, h3, h4, h5⟩ := h
  exact ⟨y, hy, x, hx, h2, h1, h4, h3, h5.symm⟩
theorem RP.symm {S : List Touch} {a b : Int} {j : Nat} {out : List Int} (p : RP S a b j out) : RP S b a j out :=
  ⟨p.srt, fun c => (p.mem c).trans ⟨fun h => ⟨h.1, rcl_symm h.2⟩, fun h => ⟨h.1, rcl_symm h.2⟩⟩⟩
theorem RP.unique {S : List Touch} {a b : Int} {j : Nat} {out out' : List Int} (p : RP S a b j out) (p' : RP S a b j out') : out = out' :=
  lt_unique p.srt p'.srt fun c => (p.mem c).trans (p'.mem c).symm
theorem RP.of_cagg {a b : Int} (SW : List TW) : RP (SW.map Subtype.val) a b (SW.map Subtype.val).length (clashes (cagg a b SW) (((cagg a b SW).map Prod.fst).mergeSort (fun x y => decide (x ≤ y)))) := by
  have hnd : ((cagg a b SW).map Prod.fst).Nodup := agg1_nodup _ (agg1_nodup _ (by simp))
  have hpm := List.mergeSort_perm ((cagg a b SW).map Prod.fst) (fun x y => decide (x ≤ y))
  have hle := List.pairwise_mergeSort (le := fun x y : Int => decide (x ≤ y)) (by intro x y z; simp; omega) (by intro x y; simp; omega) ((cagg a b SW).map Prod.fst)
  have hnd2 := hpm.nodup_iff.2 hnd
  have hlt : (((cagg a b SW).map Prod.fst).mergeSort (fun x y => decide (x ≤ y))).Pairwise (· < ·) := by
    refine List.Pairwise.imp₂ (R := fun x y => decide (x ≤ y) = true) (S := (· ≠ ·)) (fun x y h1 h2 => ?_) hle hnd2
    have : x ≤ y := by simpa using h1
    omega
  refine ⟨hlt.sublist List.filter_sublist, fun c => ?_⟩
  rw [List.take_length]
  unfold clashes
  rw [List.mem_filter]
  simp only [Bool.and_eq_true, decide_eq_true_eq]
  constructor
  · rintro ⟨_, h1, h2, h3⟩
    have hr := clash_rcl h1 h2 h3
    obtain ⟨x, hx, y, hy, _, _, e, _⟩ := hr
    exact ⟨⟨x, hx, e⟩, clash_rcl h1 h2 h3⟩
  · rintro ⟨_, x, hx, y, hy, cx, cy, ex, ey, hw⟩
    obtain ⟨x', hx', rfl⟩ := List.mem_map.1 hx
    obtain ⟨y', hy', rfl⟩ := List.mem_map.1 hy
    have := clash_has SW x' y' hx' hy' cx cy ex ey hw
    unfold clashes at this
    rw [List.mem_filter] at this
    simpa using this
theorem clashes_len {a b : Int} (hab : a ≠ b) (SW : List TW) : (clashes (cagg a b SW) (((cagg a b SW).map Prod.fst).mergeSort (fun x y => decide (x ≤ y)))).length ≤ SW.length := by
  refine Nat.le_trans (List.length_filter_le _ _) ?_
  rw [List.length_mergeSort, List.length_map]
  exact cagg_length hab SW
/-- The row of the cells at which two cores clash. -/
def Cls (S : List Touch) (a b : Int) (cs : List Int) : Prop := cs.length ≤ S.length ∧ (a = b → cs = []) ∧ (a ≠ b → RP S a b S.length cs)
theorem Cls.unique {S : List Touch} {a b : Int} {cs ds : List Int} (h : Cls S a b cs) (k : Cls S a b ds) : cs = ds := by
  by_cases e : a = b
  · rw [h.2.1 e, k.2.1 e]
  · exact (h.2.2 e).unique (k.2.2 e)
theorem Cls.symm {S : List Touch} {a b : Int} {cs : List Int} (h : Cls S a b cs) : Cls S b a cs :=
  ⟨h.1, fun e => h.2.1 e.symm, fun e => (h.2.2 (fun e' => e e'.symm)).symm⟩

/-! The two. -/
section
variable {w0 w : World} {p m q : Nat} {on on2 : Bool} {N L : List (Int × Int)} {S S2 : List Touch}
theorem dd_read (h : Duo w0 p m q on N S on2 L S2 w) (hn : Few S) (core k : Int) :
    Calls Try.prog 19 #[.pointer (some ⟨p, 0, none⟩), .int .i64 core, .int .u64 k] w fun e w' => e = .returned (.int .i64 (nget k N)) ∧ Duo w0 p m q on N (logged on S ⟨core, k, false⟩) on2 L S2 w' ∧ Kt2 w w' := by
  obtain ⟨sv, hc, hstep⟩ := h.c
  refine (read_any hc hn core k).mono ?_
  rintro e w' ⟨rfl, hst⟩
  exact ⟨rfl, hstep _ _ _ _ hst⟩
theorem dd_write (h : Duo w0 p m q on N S on2 L S2 w) (hn : Few S) (core k v : Int) :
    Calls Try.prog 22 #[.pointer (some ⟨p, 0, none⟩), .int .i64 core, .int .u64 k, .int .i64 v] w fun e w' => e = .returned (.tuple #[]) ∧ Duo w0 p m q on (nput k v N) (logged on S ⟨core, k, true⟩) on2 L S2 w' ∧ Kt2 w w' := by
  obtain ⟨sv, hc, hstep⟩ := h.c
  refine (write_any hc hn core k v).mono ?_
  rintro e w' ⟨rfl, hst⟩
  exact ⟨rfl, hstep _ _ _ _ hst⟩
theorem dd_add (h : Duo w0 p m q on N S on2 L S2 w) (hn : Few S) (core k v : Int) :
    Calls Try.prog 18 #[.pointer (some ⟨p, 0, none⟩), .int .i64 core, .int .u64 k, .int .i64 v] w fun e w' => e = .returned (.int .i64 (nget k N)) ∧ Duo w0 p m q on (nput k (wrap64 (nget k N + v)) N) (logged on S ⟨core, k, true⟩) on2 L S2 w' ∧ Kt2 w w' := by
  obtain ⟨sv, hc, hstep⟩ := h.c
  refine (add_any hc hn core k v).mono ?_
  rintro e w' ⟨rfl, hst⟩
  exact ⟨rfl, hstep _ _ _ _ hst⟩
theorem dd_note (h : Duo w0 p m q on N S on2 L S2 w) (b : Bool) :
    Calls Try.prog 14 #[.pointer (some ⟨p, 0, none⟩), .bool b] w fun e w' => e = .returned (.tuple #[]) ∧ Duo w0 p m q b N S on2 L S2 w' ∧ Kt2 w w' := by
  obtain ⟨sv, hc, hstep⟩ := h.c
  refine (cells_note hc b).mono ?_
  rintro e w' ⟨rfl, hst⟩
  exact ⟨rfl, hstep _ _ _ _ hst⟩
theorem dd_rread (h : Duo w0 p m q on N S on2 L S2 w) (hn : Few S2) (hl : L.length ≤ 10000) (core k : Int) :
    Calls Try.prog 21 #[.pointer (some ⟨q, 0, none⟩), .int .i64 core, .int .u64 k] w fun e w' => e = .returned (.int .i64 (nget k L)) ∧ Duo w0 p m q on N S on2 L (logged on2 S2 ⟨core, k, false⟩) w' ∧ Kt2 w w' := by
  obtain ⟨vL, vS, hr, hstep⟩ := h.r
  refine (ref_read hr hn hl core k).mono ?_
  rintro e w' ⟨rfl, hst⟩
  exact ⟨rfl, hstep _ _ _ _ hst⟩
theorem dd_rwrite (h : Duo w0 p m q on N S on2 L S2 w) (hn : Few S2) (hl : L.length ≤ 10000) (core k v : Int) :
    Calls Try.prog 23 #[.pointer (some ⟨q, 0, none⟩), .int .i64 core, .int .u64 k, .int .i64 v] w fun e w' => e = .returned (.tuple #[]) ∧ Duo w0 p m q on N S on2 (lset k v L) (logged on2 S2 ⟨core, k, true⟩) w' ∧ Kt2 w w' := by
  obtain ⟨vL, vS, hr, hstep⟩ := h.r
  refine (ref_write hr hn hl core k v).mono ?_
  rintro e w' ⟨rfl, hst⟩
  exact ⟨rfl, hstep _ _ _ _ hst⟩
theorem dd_radd (h : Duo w0 p m q on N S on2 L S2 w) (hn : Few S2) (hl : L.length ≤ 10000) (core k v : Int) :
    Calls Try.prog 24 #[.pointer (some ⟨q, 0, none⟩), .int .i64 core, .int .u64 k, .int .i64 v] w fun e w' => e = .returned (.int .i64 (nget k L)) ∧ Duo w0 p m q on N S on2 (lset k (wrap64 (nget k L + v)) L) (logged on2 S2 ⟨core, k, true⟩) w' ∧ Kt2 w w' := by
  obtain ⟨vL, vS, hr, hstep⟩ := h.r
  refine (ref_add hr hn hl core k v).mono ?_
  rintro e w' ⟨rfl, hst⟩
  exact ⟨rfl, hstep _ _ _ _ hst⟩
theorem kt2_of {w w' : World} {b : Nat} {cs : Array Value} {t : TypeId} {fz : Nat × Nat} (hf : Fr (· = b) w w') (hb : w.heap[b]? = some (.cells cs t fz)) (ht : t = 88 ∨ t = 44) : Kt2 w w' := by
  intro l cs' t' fz' hl h1 h2 h3 h4
  refine hf.block l (blk_lt hl) (fun e => ?_)
  subst e
  rw [hb] at hl
  simp only [Option.some.injEq, Obj.cells.injEq] at hl
  rcases ht with rfl | rfl
  · exact h2 hl.2.1.symm
  · exact h3 hl.2.1.symm
theorem dd_forget (h : Duo w0 p m q on N S on2 L S2 w) :
    Calls Try.prog 25 #[.pointer (some ⟨p, 0, none⟩)] w fun e w' => e = .returned (.tuple #[]) ∧ Duo w0 p m q on N [] on2 L S2 w' ∧ Kt2 w w' := by
  obtain ⟨sv, vL, vS, hc, hr, h1, h2⟩ := h.ex
  refine (forget_any hc).mono ?_
  rintro e w' ⟨rfl, hc', hf⟩
  refine ⟨rfl, ⟨⟨_, vL, vS, hc', hr.fr hf (fun k hk e => (h1 p (.inl rfl)).2 (e ▸ hk)), ?_, h2⟩, Fr.step h.below hf h.below.size (fun k e => by subst e; exact (h1 _ (.inl rfl)).1)⟩, kt2_of hf hc.obj (.inl rfl)⟩
  rintro k (rfl | rfl | hg)
  · exact h1 _ (.inl rfl)
  · exact h1 _ (.inr (.inl rfl))
  · cases hg
/-- 'r.On = b'. -/
theorem Duo.ron (h : Duo w0 p m q on N S on2 L S2 w) (b : Bool) : Duo w0 p m q on N S b L S2 (w.setCell ⟨q, 2, none⟩ (.bool b)) ∧ Kt2 w (w.setCell ⟨q, 2, none⟩ (.bool b)) := by
  obtain ⟨sv, vL, vS, hc, hr, h1, h2⟩ := h.ex
  have hf : Fr (· = q) w (w.setCell ⟨q, 2, none⟩ (.bool b)) := Fr.setCell (S := fun k => k = q) (Fr.refl _ _) ⟨q, 2, none⟩ (.inr rfl) _
  have hlt := hr.lt (.inl rfl)
  refine ⟨⟨⟨sv, vL, vS, hc.fr hf (fun k hk e => (h1 k hk).2 (.inl e)), ⟨heap_set_here hr.obj 2 _, ?_, ?_⟩, h1, h2⟩, Fr.step h.below hf h.below.size (fun k e => by subst e; exact h2 _ (.inl rfl))⟩, kt2_of hf hr.obj (.inr rfl)⟩
  · exact ownsRow_of_block hr.rowL (fun k hk => hf.block k (ownsRow_lt hr.rowL hk) (fun e => by subst e; exact hr.Lq hk))
  · exact ownsRow_of_block hr.rowS (fun k hk => hf.block k (ownsRow_lt hr.rowS hk) (fun e => by subst e; exact hr.Sq hk))
/-- 'r.Seen = nil'. -/
theorem Duo.rnil (h : Duo w0 p m q on N S on2 L S2 w) : Duo w0 p m q on N S on2 L [] (w.setCell ⟨q, 1, none⟩ (.slice none 0 0)) ∧ Kt2 w (w.setCell ⟨q, 1, none⟩ (.slice none 0 0)) := by
  obtain ⟨sv, vL, vS, hc, hr, h1, h2⟩ := h.ex
  have hf : Fr (· = q) w (w.setCell ⟨q, 1, none⟩ (.slice none 0 0)) := Fr.setCell (S := fun k => k = q) (Fr.refl _ _) ⟨q, 1, none⟩ (.inr rfl) _
  have hsub : ∀ k, rfoot q vL (.slice none 0 0) k → rfoot q vL vS k := by
    rintro k (e | hk | hk)
    · exact .inl e
    · exact .inr (.inl hk)
    · cases hk
  refine ⟨⟨⟨sv, vL, .slice none 0 0, hc.fr hf (fun k hk e => (h1 k hk).2 (.inl e)), ⟨heap_set_here hr.obj 1 _, ?_, World.ownsRow_nil _ _ _ _⟩, fun k hk => ⟨(h1 k hk).1, fun hk' => (h1 k hk).2 (hsub k hk')⟩, fun k hk => h2 k (hsub k hk)⟩, Fr.step h.below hf h.below.size (fun k e => by subst e; exact h2 _ (.inl rfl))⟩, kt2_of hf hr.obj (.inr rfl)⟩
  exact ownsRow_of_block hr.rowL (fun k hk => hf.block k (ownsRow_lt hr.rowL hk) (fun e => by subst e; exact hr.Lq hk))
/-- The cells that were copied, beside the copy. -/
structure Cpy (w0 : World) (p m p' m' q : Nat) (on1 : Bool) (N1 : List (Int × Int)) (S1 : List Touch) (on : Bool) (N : List (Int × Int)) (S : List Touch) (on2 : Bool) (L : List (Int × Int)) (S2 : List Touch) (W : World) : Prop where
  ex : ∃ sv sv' vL vS, CellsAt W p m sv on1 N1 S1 ∧ CellsAt W p' m' sv' on N S ∧ RefAt W q vL vS on2 L S2 ∧ (∀ k, cfoot p m sv k → w0.heap.size ≤ k ∧ ¬ cfoot p' m' sv' k ∧ ¬ rfoot q vL vS k) ∧ (∀ k, cfoot p' m' sv' k → w0.heap.size ≤ k ∧ ¬ rfoot q vL vS k) ∧ ∀ k, rfoot q vL vS k → w0.heap.size ≤ k
  below : Below w0.heap.size w0 W
theorem dd_copy (h : Duo w0 p m q on N S on2 L S2 w) (hn : Few S) :
    Calls Try.prog 26 #[.pointer (some ⟨p, 0, none⟩)] w fun e w' => ∃ p' m', e = .returned (.pointer (some ⟨p', 0, none⟩)) ∧ Cpy w0 p m p' m' q on N S on N S on2 L S2 w' ∧ Kt2 w w' := by
  obtain ⟨sv, vL, vS, hc, hr, h1, h2⟩ := h.ex
  refine (copy_any hc hn).mono ?_
  rintro e w' ⟨p', m', sv', rfl, hc', hk', hf⟩
  refine ⟨p', m', rfl, ⟨⟨sv, sv', vL, vS, hc.fr hf (fun _ _ => id), hc', hr.fr hf (fun _ _ => id), fun k hk => ⟨(h1 k hk).1, fun hk2 => ?_, (h1 k hk).2⟩, fun k hk => ⟨Nat.le_trans h.below.size (hk' k hk), fun hk2 => ?_⟩, h2⟩, Fr.step h.below hf h.below.size (fun _ h => h.elim)⟩, Kt2.fr hf⟩
  · have := hc.lt hk; have := hk' k hk2; omega
  · have := hr.lt hk2; have := hk' k hk; omega
variable {p' m' : Nat} {on1 : Bool} {N1 : List (Int × Int)} {S1 : List Touch}
theorem Cpy.fr {w' : World} (h : Cpy w0 p m p' m' q on1 N1 S1 on N S on2 L S2 w) (hf : Fr (fun _ => False) w w') : Cpy w0 p m p' m' q on1 N1 S1 on N S on2 L S2 w' := by
  obtain ⟨sv, sv', vL, vS, hc, hc', hr, h1, h2, h3⟩ := h.ex
  exact ⟨⟨sv, sv', vL, vS, hc.fr hf (fun _ _ => id), hc'.fr hf (fun _ _ => id), hr.fr hf (fun _ _ => id), h1, h2, h3⟩, Fr.step h.below hf h.below.size (fun _ h => h.elim)⟩
theorem cpy_write (h : Cpy w0 p m p' m' q on1 N1 S1 on N S on2 L S2 w) (hn : Few S1) (core k v : Int) :
    Calls Try.prog 22 #[.pointer (some ⟨p, 0, none⟩), .int .i64 core, .int .u64 k, .int .i64 v] w fun e w' => e = .returned (.tuple #[]) ∧ Cpy w0 p m p' m' q on1 (nput k v N1) (logged on1 S1 ⟨core, k, true⟩) on N S on2 L S2 w' ∧ Kt2 w w' := by
  obtain ⟨sv, sv', vL, vS, hc, hc', hr, h1, h2, h3⟩ := h.ex
  refine (write_any hc hn core k v).mono ?_
  rintro e w' ⟨rfl, sv1, a, b, c⟩
  have hsz := h.below.size
  refine ⟨rfl, ⟨⟨sv1, sv', vL, vS, a, hc'.fr b (fun k hk hk2 => (h1 k hk2).2.1 hk), hr.fr b (fun k hk hk2 => (h1 k hk2).2.2 hk), ?_, h2, h3⟩, Fr.step h.below b hsz (fun k hk => (h1 k hk).1)⟩, fun l cs t fz hl t1 t2 t3 t4 => b.block l (blk_lt hl) (hc.away2 hl t1 t2)⟩
  rintro k (rfl | rfl | hg)
  · exact h1 _ (.inl rfl)
  · exact h1 _ (.inr (.inl rfl))
  · rcases c with c | ⟨g, hg', hl⟩
    · exact h1 _ (.inr (.inr (c ▸ hg)))
    · rw [hg] at hg'
      cases hg'
      exact ⟨by omega, fun hk => by have := hc'.lt hk; omega, fun hk => by have := hr.lt hk; omega⟩
theorem cpy_forget (h : Cpy w0 p m p' m' q on1 N1 S1 on N S on2 L S2 w) :
    Calls Try.prog 25 #[.pointer (some ⟨p, 0, none⟩)] w fun e w' => e = .returned (.tuple #[]) ∧ Duo w0 p' m' q on N S on2 L S2 w' ∧ Kt2 w w' := by
  obtain ⟨sv, sv', vL, vS, hc, hc', hr, h1, h2, h3⟩ := h.ex
  refine (forget_any hc).mono ?_
  rintro e w' ⟨rfl, -, hf⟩
  have hp := h1 p (.inl rfl)
  exact ⟨rfl, ⟨⟨sv', vL, vS, hc'.fr hf (fun k hk e => hp.2.1 (e ▸ hk)), hr.fr hf (fun k hk e => hp.2.2 (e ▸ hk)), h2, h3⟩, Fr.step h.below hf h.below.size (fun k e => by subst e; exact hp.1)⟩, kt2_of hf hc.obj (.inl rfl)⟩
end

/-! What only reads, at a later world. -/
section
variable {w0 w W : World} {p m q : Nat} {on on2 : Bool} {N L : List (Int × Int)} {S S2 : List Touch}
theorem dd_peek (h : Duo w0 p m q on N S on2 L S2 w) (hF : Fr (fun _ => False) w W) (k : Int) :
    Calls Try.prog 17 #[.pointer (some ⟨p, 0, none⟩), .int .u64 k] W fun e w' => e = .returned (.int .i64 (nget k N)) ∧ Fr (fun _ => False) w w' := by
  obtain ⟨sv, vL, vS, hc, -⟩ := (h.fr hF).ex
  exact (peek_any hc k).mono fun _ _ ⟨he, hf⟩ => ⟨he, hf ▸ hF⟩
theorem dd_rpeek (h : Duo w0 p m q on N S on2 L S2 w) (hl : L.length ≤ 10000) (hs : ∀ k, nget k N = nget k L) (hF : Fr (fun _ => False) w W) (k : Int) :
    Calls Try.prog 27 #[.pointer (some ⟨q, 0, none⟩), .int .u64 k] W fun e w' => e = .returned (.int .i64 (nget k N)) ∧ Fr (fun _ => False) w w' := by
  obtain ⟨sv, vL, vS, -, hr, -⟩ := (h.fr hF).ex
  rw [hs]
  exact (ref_peek hr k hl).mono fun _ _ ⟨he, hf⟩ => ⟨he, hf ▸ hF⟩
theorem dd_seen (h : Duo w0 p m q on N S on2 L S2 w) (hn : Few S) (hF : Fr (fun _ => False) w W) :
    Calls Try.prog 29 #[.pointer (some ⟨p, 0, none⟩)] W fun e w' => ∃ ao cap, e = .returned (.slice ao S.length cap) ∧ w'.ownsRow 0 91 3 (.slice ao S.length cap) S.length (touches S) ∧ Fr (fun _ => False) w w' := by
  obtain ⟨sv, vL, vS, hc, -⟩ := (h.fr hF).ex
  refine (cells_seen hc hn).mono ?_
  rintro e w' ⟨v', rfl, hrow, hf⟩
  obtain ⟨ao, cap, hv, _⟩ := own_form (ownsRowB_zero hrow)
  subst hv
  exact ⟨ao, cap, rfl, ownsRowB_zero hrow, hF.trans hf⟩
/-- The document's cells have a row of touches. -/
theorem Duo.row (h : Duo w0 p m q on N S on2 L S2 w) : ∃ ao cap, w.cell? ⟨q, 1, none⟩ = some (.slice ao S2.length cap) ∧ w.ownsRow 0 91 3 (.slice ao S2.length cap) S2.length (touches S2) ∧ q < w.heap.size := by
  obtain ⟨sv, vL, vS, -, hr, -⟩ := h.ex
  obtain ⟨ao, cap, hv, _⟩ := own_form hr.rowS
  have h1 := cl_of hr.obj 1
  subst hv
  exact ⟨ao, cap, h1, hr.rowS, hr.lt (.inl rfl)⟩
theorem dd_same {va vb : Value} (hn : Few S) (hb : w.ownsRow 0 91 3 vb S.length (touches S)) (hF : Fr (fun _ => False) w W) (ha : W.ownsRow 0 91 3 va S.length (touches S)) :
    Calls Try.prog 28 #[va, vb] W fun e w' => e = .returned (.bool true) ∧ Fr (fun _ => False) w w' :=
  (ref_same ha (ownsRow_of_block hb (fun k hk => hF.block k (ownsRow_lt hb hk) id)) hn).mono fun _ _ ⟨he, hf⟩ => ⟨he, hF.trans hf⟩
theorem dd_clash {SW : List TW} (h : Duo w0 p m q on N (SW.map Subtype.val) on2 L S2 w) (hn : SW.length ≤ 150) (hF : Fr (fun _ => False) w W) (a b : Int) :
    Calls Try.prog 16 #[.pointer (some ⟨p, 0, none⟩), .int .i64 a, .int .i64 b] W fun e w' => ∃ v cs, e = .returned v ∧ Cls (SW.map Subtype.val) a b cs ∧ w'.ownsRow 0 30 1 v cs.length (cs.map (Value.int .u64)) ∧ Fr (fun _ => False) W w' ∧ Fr (fun _ => False) w w' := by
  by_cases e : a = b
  · subst e
    refine (clash_same W p a).mono ?_
    rintro e w' ⟨rfl, rfl⟩
    exact ⟨_, [], rfl, ⟨by simp, fun _ => rfl, fun e => absurd rfl e⟩, World.ownsRow_nil _ _ _ _, Fr.refl _ _, hF⟩
  · obtain ⟨sv, vL, vS, hc, -⟩ := (h.fr hF).ex
    refine (clash_any hc ⟨by simp; omega⟩ a b e (Nat.le_trans (cagg_length e SW) (by omega))).mono ?_
    rintro _ w' ⟨v, cs, rfl, rfl, hr, hb⟩
    exact ⟨v, _, rfl, ⟨by simpa using clashes_len e SW, fun h => absurd h e, fun _ => RP.of_cagg SW⟩, ownsRow_zero hr, Fr.of_below hb, hF.trans (Fr.of_below hb)⟩
set_option maxHeartbeats 400000 in
theorem rclash_same (w : World) (q : Nat) (a : Int) :
    Calls Try.prog 31 #[.pointer (some ⟨q, 0, none⟩), .int .i64 a, .int .i64 a] w fun e w' => e = .returned (.slice none 0 0) ∧ w = w' := by
  go_enter Try.func31, Try.ntmps31
  go_wp2_with fail
  go_ret
  exact ⟨rfl, rfl⟩
theorem dd_rclash (h : Duo w0 p m q on N S on2 L S2 w) (hn : Few S2) (hF : Fr (fun _ => False) w W) (a b : Int) :
    Calls Try.prog 31 #[.pointer (some ⟨q, 0, none⟩), .int .i64 a, .int .i64 b] W fun e w' => ∃ v cs, e = .returned v ∧ Cls S2 a b cs ∧ w'.ownsRow 0 30 1 v cs.length (cs.map (Value.int .u64)) ∧ Fr (fun _ => False) W w' ∧ Fr (fun _ => False) w w' := by
  by_cases e : a = b
  · subst e
    refine (rclash_same W q a).mono ?_
    rintro e w' ⟨rfl, rfl⟩
    exact ⟨_, [], rfl, ⟨by simp, fun _ => rfl, fun e => absurd rfl e⟩, World.ownsRow_nil _ _ _ _, Fr.refl _ _, hF⟩
  · obtain ⟨sv, vL, vS, -, hr, -⟩ := (h.fr hF).ex
    refine (rclash_any hr hn a b e).mono ?_
    rintro _ w' ⟨v, cs, rfl, hp, hl, hrow, hb⟩
    exact ⟨v, cs, rfl, ⟨hl, fun h => absurd h e, fun _ => hp⟩, ownsRow_zero hrow, Fr.of_below hb, hF.trans (Fr.of_below hb)⟩
/-- Two rows of the same cells. -/
theorem dd_same64 {va vb : Value} {xs ys : List Int} (e : xs = ys) (hl : xs.length ≤ 10000) (ha : w.ownsRow 0 30 1 va xs.length (xs.map (Value.int .u64))) (hF : Fr (fun _ => False) w W) (hb : W.ownsRow 0 30 1 vb ys.length (ys.map (Value.int .u64))) :
    Calls Try.prog 30 #[va, vb] W fun e w' => e = .returned (.bool true) ∧ Fr (fun _ => False) W w' := by
  subst e
  exact same64 (ownsRow_of_block ha (fun k hk => hF.block k (ownsRow_lt ha hk) id)) hb hl
end
end Go.Proofs.Ythmabnigdnbdkaa
