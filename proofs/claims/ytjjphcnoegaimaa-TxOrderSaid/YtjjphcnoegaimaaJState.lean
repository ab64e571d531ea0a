/- A journal's device between two calls: plain laws; Open and Commit on it. -/
import Derived.Test.YtjjphcnoegaimaaJOpen
namespace Go.Proofs.Ytjjphcnoegaimaa
open Go.RowKit Go.Shelf Go.Maps
set_option maxRecDepth 20000
set_option linter.unusedVariables false

/-- Nothing is under way. -/
structure JL (N fr g : Nat) (h : Nat → ByteArray) (s : DS) : Prop where
  hard : s.hard.length = N
  clean : Clean s h
  armed : s.armed = false
  dead : s.dead = false
  head : readB (h fr) = (g, 0)
theorem Ab.of_clean {s : DS} {h : Nat → ByteArray} (c : Clean s h) : Ab s (fun i => [h i]) := c
theorem clean_of {s : DS} {c : Cs} (h : Ab s c) {h' : Nat → ByteArray} {N : Nat} (hN : s.hard.length = N) (e : ∀ i, i < N → c i = [h' i]) : Clean s h' := fun i hi => by rw [h i hi, e i (by omega)]
theorem JL.crash {N fr g : Nat} {h : Nat → ByteArray} {s : DS} (j : JL N fr g h s) (keep : ByteArray) : JL N fr g h (crashS keep s) := ⟨(crash_hard keep s).trans j.hard, j.clean.crash keep, rfl, rfl, j.head⟩
theorem JL.newest {N fr g : Nat} {h : Nat → ByteArray} {s : DS} (j : JL N fr g h s) {i : Nat} (hi : i < N) : newest s i = h i := j.clean.newest (by rw [j.hard]; exact hi)
theorem newS_clean (N : Nat) : Clean (newS N) (fun _ => zsec) := by
  intro i hi
  have hi' : i < N := by simpa [newS] using hi
  show (List.replicate N zsec).getD i ByteArray.empty :: [] = [zsec]
  rw [List.getD_eq_getElem?_getD, List.getElem?_replicate, if_pos hi']
  rfl
theorem newS_JL (N fr : Nat) : JL N fr 0 (fun _ => zsec) (newS N) := ⟨by simp [newS], newS_clean N, rfl, rfl, readB_zsec⟩
theorem newS_ok (N : Nat) : Okd N 0 (newS N) := by
  refine ⟨by simp [newS], Int.le_refl _, by show (0 : Int) ≤ 1000; decide, (fun e => by cases e), Int.le_refl _, Int.le_refl _, fun j => Nat.le_refl _, fun i hi b hb => ?_⟩
  rw [newS_clean N i (by simpa [newS] using hi), List.mem_singleton] at hb
  rw [hb]; rfl

section
variable {N fr n g : Nat} {l : Puts} {h : Nat → ByteArray} {s : DS}
/-- A commit that is done. -/
theorem commit_whole (mp : MayP N fr n l) (hN : s.hard.length = N) (hc : Clean s h) (hok : (runO s (commitO fr g l)).2 = true) : ∃ h', Clean (runO s (commitO fr g l)).1 h' ∧ JC N fr n g l h h' := by
  obtain ⟨k, -, h2, h3⟩ := runO_ab (commitO fr g l) hc.ab
  obtain ⟨-, h', e, hj⟩ := commit_pre mp (c := fun i => [h i]) (fun i _ => rfl) (g := g)
  rw [h3 hok, List.take_of_length_le (Nat.le_refl _)] at h2
  exact ⟨h', clean_of h2 ((runO_hard _ _).trans hN) e, hj⟩
theorem commit_free (mp : MayP N fr n l) (j : JL N fr g h s) (hg : g + 1 < 18446744073709551616) : (runO s (commitO fr (g + 1) l)).2 = true ∧ ∃ h', JL N fr (g + 1) h' (runO s (commitO fr (g + 1) l)).1 ∧ ∀ i, Out N fr n i → h' i = laid h l i := by
  obtain ⟨a, b, c⟩ := runO_free (commitO fr (g + 1) l) j.armed j.dead
  obtain ⟨h', d, e⟩ := commit_whole mp j.hard j.clean a
  exact ⟨a, h', ⟨(runO_hard _ _).trans j.hard, d, b, c, by rw [e.1]; exact readB_head _ 0 hg (by decide)⟩, e.2⟩
/-- A commit that is torn. -/
theorem commit_torn (mp : MayP N fr n l) (hN : s.hard.length = N) (hc : Clean s h) (keep : ByteArray) : ∃ h', Clean (crashS keep (runO s (commitO fr g l)).1) h' ∧ (JA N fr n h h' ∨ JB N fr n g l h h' ∨ JC N fr n g l h h') := by
  obtain ⟨k, -, h2, -⟩ := runO_ab (commitO fr g l) hc.ab
  obtain ⟨f, h3, h4⟩ := h2.crash keep
  obtain ⟨hp, -⟩ := commit_pre mp (c := fun i => [h i]) (fun i _ => rfl) (g := g)
  rw [runO_hard, hN] at h4
  exact ⟨f, h3, hp k f h4⟩
/-- A recovery, torn or not. -/
theorem recover_torn (mp : MayP N fr n l) (hN : s.hard.length = N) {h0 : Nat → ByteArray} (hc : Clean s h) (hb : JB N fr n g l h0 h) (keep : ByteArray) : ∃ h', Clean (crashS keep (runO s (recoverO fr g l)).1) h' ∧ (JB N fr n g l h0 h' ∨ JC N fr n g l h0 h') := by
  obtain ⟨k, -, h2, -⟩ := runO_ab (recoverO fr g l) hc.ab
  obtain ⟨f, h3, h4⟩ := h2.crash keep
  obtain ⟨hp, -⟩ := recover_pre mp hb (c := fun i => [h i]) (fun i _ => rfl)
  rw [runO_hard, hN] at h4
  exact ⟨f, h3, hp k f h4⟩
theorem recover_whole (mp : MayP N fr n l) (hN : s.hard.length = N) {h0 : Nat → ByteArray} (hc : Clean s h) (hb : JB N fr n g l h0 h) (hok : (runO s (recoverO fr g l)).2 = true) : ∃ h', Clean (runO s (recoverO fr g l)).1 h' ∧ JC N fr n g l h0 h' := by
  obtain ⟨k, -, h2, h3⟩ := runO_ab (recoverO fr g l) hc.ab
  obtain ⟨-, h', e, hj⟩ := recover_pre mp hb (c := fun i => [h i]) (fun i _ => rfl)
  rw [h3 hok, List.take_of_length_le (Nat.le_refl _)] at h2
  exact ⟨h', clean_of h2 ((runO_hard _ _).trans hN) e, hj⟩
/-- What is kept where it is committed, and not done. -/
theorem kept_JB (mp : MayP N fr n l) {h0 : Nat → ByteArray} (hN : s.hard.length = N) (hc : Clean s h) (hb : JB N fr n g l h0 h) : keptP (newest s) fr l.length = l := by
  have hfit := mp.fit
  have hare := mp.area
  have hsm := mp.small
  refine kept_area _ fr l (fun x hx => by have := mp.put x hx; omega) (fun p hp => ?_)
  have hp' := hp
  rw [areaL_length] at hp'
  rw [hc.newest (by omega)]
  exact hb.2.1 p hp
end

section
variable {w0 w W W' : World} {X : Nat → Prop} {p jb N B fr n g r : Nat} {l : Puts} {h : Nat → ByteArray} {s : DS}
theorem wcount_recover (fr g : Nat) (l : Puts) : wcount (recoverO fr g l) = l.length + 1 := by
  rw [recoverO, wcount_append, wcount_lay]
  rfl
theorem wcount_commit (fr g : Nat) (l : Puts) : wcount (commitO fr g l) = (areaL l).length + 1 + (l.length + 1) := by
  rw [commitO, wcount_append, wcount_wrs]
  show _ + (wcount (recoverO fr g l) + 1) = _
  rw [wcount_recover]
  omega
theorem MayP.wc (mp : MayP N fr n l) (hn : n ≤ 256) (g : Nat) : wcount (commitO fr g l) ≤ 600 := by
  rw [wcount_commit, areaL_length]
  have := mp.fit
  omega
theorem commit_JL {v : Value} (l : Puts) (h1 : JS w0 X p jb N B fr n g r s W) (jl : JL N fr g h s) (hl : SlP w0 X W v (zP l)) {m : Nat} (hm : IsMost n m) (mp : MayP N fr n l) (hn : n ≤ 256) (hg : g + 1 < 18446744073709551616) (hB : B + 600 ≤ 90000) :
    Calls Try.prog 37 #[.pointer (some ⟨jb, 0, none⟩), v] W fun e W' => ∃ s' h', e = .returned (.tuple #[.int .u64 ((g + 1 : Nat) : Int), .int .i64 0]) ∧ JS w0 X p jb N (B + 600) fr n (g + 1) r s' W' ∧ JL N fr (g + 1) h' s' ∧ (∀ i, Out N fr n i → h' i = laid h l i) ∧ Kb w0 (fun k => X k ∧ k ≠ jb) W W' := by
  have hwc := mp.wc hn (g + 1)
  obtain ⟨hok, h', j1, j2⟩ := commit_free mp jl hg
  refine (commit_any l h1 hl hm mp hg (by omega)).mono ?_
  rintro e W' (⟨_, rfl, a, b⟩ | ⟨hno, _⟩)
  · exact ⟨_, h', rfl, a.mono (by omega), j1, j2, b⟩
  · rw [hok] at hno; cases hno
theorem open_JL (h1 : DvO w0 X p s W) (ok : Okd N B s) (jl : JL N fr g h s) (h4 : 4 ≤ n) (h256 : n ≤ 256) (hfr : fr + n ≤ N) (hN2 : N ≤ 4096) {m : Nat} (hm : IsMost n m) :
    Calls Try.prog 32 #[.pointer (some ⟨p, 0, none⟩), .int .i64 fr, .int .i64 n] W fun e W' => e = .returned (.tuple #[.pointer (some ⟨W.heap.size, 0, none⟩), .int .i64 0]) ∧ JS w0 (fun k => X k ∨ k = W.heap.size) p W.heap.size N B fr n g 0 s W' ∧ Kb w0 X W W' :=
  open_none h1 ok jl.dead h4 h256 hfr hN2 hm (by rw [jl.newest (by omega)]; exact jl.head) (.inl rfl)
theorem js_crash (h1 : JS w0 X p jb N B fr n g r s W) (hB : B ≤ 90000) (keep : ByteArray) : Calls Try.prog 22 #[.pointer (some ⟨p, 0, none⟩), .string keep] W fun e W' => e = .returned (.int .i64 0) ∧ JS w0 X p jb N B fr n g r (crashS keep s) W' ∧ Kb w0 X W W' := by
  refine (o_crash h1.dev keep (fun j => Nat.le_trans (h1.ok.rows j) (by omega))).mono ?_
  rintro e W' ⟨rfl, h2, hk⟩
  have hkb := h1.dev.kb h2 hk
  exact ⟨rfl, h1.step h2 hkb (h1.ok.crash keep), hkb⟩
theorem js_fuse (h1 : JS w0 X p jb N B fr n g r s W) (k : Int) (h0 : 0 ≤ k) (hk : k ≤ 1000) : Calls Try.prog 23 #[.pointer (some ⟨p, 0, none⟩), .int .i64 k] W fun e W' => e = .returned (.int .i64 0) ∧ JS w0 X p jb N B fr n g r (fuseS s k) W' ∧ Kb w0 X W W' := by
  refine (o_fuse h1.dev k h0).mono ?_
  rintro e W' ⟨rfl, h2, hx⟩
  have hkb := h1.dev.kb h2 hx
  exact ⟨rfl, h1.step h2 hkb (h1.ok.fuse k h0 hk), hkb⟩
end
end Go.Proofs.Ytjjphcnoegaimaa
