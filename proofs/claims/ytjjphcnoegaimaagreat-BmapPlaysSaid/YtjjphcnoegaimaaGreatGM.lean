/- Package journal: Open. A journal's device between two calls: plain laws; Open and Commit on it. Open behind a crash, wherever a commit stood still. -/
import Derived.Test.YtjjphcnoegaimaaGreatGL
namespace Go.Proofs.YtjjphcnoegaimaaGreat
open Go.RowKit Go.Shelf Go.Maps
set_option maxRecDepth 20000
set_option linter.unusedVariables false

/-- A new journal's block. -/
def jnew (p fr n : Nat) : Obj := .cells #[.pointer (some ⟨p, 0, none⟩), .int .i64 fr, .int .i64 n, .int .u64 0, .int .i64 0] 105
def OpPost (jb : Nat) (Yes No : World → Prop) (e : Ending) (W' : World) : Prop := (e = .returned (.tuple #[.pointer (some ⟨jb, 0, none⟩), .int .i64 0]) ∧ Yes W') ∨ (e = .returned (.tuple #[.pointer none, .int .i64 30]) ∧ No W')
section
variable {w0 w W W' W1 : World} {X : Nat → Prop} {p N B fr n : Nat} {s : DS}
theorem o_len (h : DvO w0 X p s W) (hN : s.hard.length = N) : Calls Tryz.prog 45 #[.pointer (some ⟨p, 0, none⟩)] W fun e W' => e = .returned (.int .i64 N) ∧ W = W' := by
  rw [← hN]
  obtain ⟨hb, hc, m, L, h1, h2⟩ := h.dev
  exact dev_len h1
theorem open_js (h : DvO w0 X p s W) (ok : Okd N B s) : JS w0 (fun k => X k ∨ W.heap.size ≤ k ∧ k < (W.alloc (jnew p fr n)).heap.size) p W.heap.size N B fr n 0 0 s (W.alloc (jnew p fr n)) :=
  ⟨h.take (bnew _ _), ok, hp_new _ _ rfl, .inr ⟨Nat.le_refl _, by simp⟩, h.below.size⟩
set_option maxHeartbeats 4000000 in
theorem open_with (h : DvO w0 X p s W) (hN : s.hard.length = N) (h4 : 4 ≤ n) (h256 : n ≤ 256) (hfr : fr + n ≤ N) (hN2 : N ≤ 4096) {Yes No : World → Prop} (hrec : Calls Tryz.prog 52 #[.pointer (some ⟨W.heap.size, 0, none⟩)] (W.alloc (jnew p fr n)) (RunPost Yes No)) :
    Calls Tryz.prog 22 #[.pointer (some ⟨p, 0, none⟩), .int .i64 fr, .int .i64 n] W (OpPost W.heap.size Yes No) := by
  have hc := o_len h hN
  have HC := Lib.hid hc
  have HR := Lib.hid hrec
  unfold jnew at HR
  have d1 : decide ((n : Int) < 4) = false := decide_eq_false (by omega)
  have d2 : decide ((n : Int) > 256) = false := decide_eq_false (by omega)
  have d3 : decide ((fr : Int) < 0) = false := decide_eq_false (by omega)
  have d4 : decide ((fr : Int) > (N : Int) - (n : Int)) = false := decide_eq_false (by omega)
  have d5 : decide ((N : Int) - (n : Int) < (fr : Int)) = false := decide_eq_false (by omega)
  clear hc hrec h
  go_enter Tryz.func22, Tryz.ntmps22
  go_wp2_with fail
  refine HC.out.mono ?_
  rintro e w1 ⟨rfl, rfl⟩
  go_wp2_with fail
  refine HR.out.mono ?_
  rintro e w2 (⟨rfl, h2⟩ | ⟨rfl, h2⟩)
  · go_wp2_with fail
    go_ret2
    exact .inl ⟨rfl, h2⟩
  · go_wp2_with fail
    go_ret2
    exact .inr ⟨rfl, h2⟩
set_option maxHeartbeats 2000000 in
theorem open_nil (a b : Int) (W : World) : Calls Tryz.prog 22 #[.pointer none, .int .i64 a, .int .i64 b] W fun e W' => e = .returned (.tuple #[.pointer none, .int .i64 1]) ∧ W = W' := by
  go_enter Tryz.func22, Tryz.ntmps22
  go_wp2_with fail
  go_ret2
  exact ⟨rfl, rfl⟩

/-- Open where nothing is to lay. -/
theorem open_none (h : DvO w0 X p s W) (ok : Okd N B s) (hd : s.dead = false) (h4 : 4 ≤ n) (h256 : n ≤ 256) (hfr : fr + n ≤ N) (hN2 : N ≤ 4096) {m g1 c1 : Nat} (hm : IsMost n m) (hrd : readB (newest s fr) = (g1, c1)) (hc : c1 = 0 ∨ m < c1) :
    Calls Tryz.prog 22 #[.pointer (some ⟨p, 0, none⟩), .int .i64 fr, .int .i64 n] W fun e W' => e = .returned (.tuple #[.pointer (some ⟨W.heap.size, 0, none⟩), .int .i64 0]) ∧ JS w0 (fun k => X k ∨ k = W.heap.size) p W.heap.size N B fr n g1 0 s W' ∧ Kb w0 X W W' := by
  have hj := open_js (fr := fr) (n := n) h ok
  have hrec := recover_none hj hd (by omega) (by omega) hm hrd hc
  have hX : ∀ k, X k → k < W.heap.size := h.lt
  refine (open_with (Yes := fun W' => JS w0 (fun k => X k ∨ k = W.heap.size) p W.heap.size N B fr n g1 0 s W' ∧ Kb w0 X W W') (No := fun _ => False) h ok.hard h4 h256 hfr hN2 (hrec.mono ?_)).mono ?_
  · rintro e W' ⟨rfl, a, b⟩
    refine .inl ⟨rfl, a.less (fun k hk => hk.imp id (fun e => by subst e; exact ⟨Nat.le_refl _, by simp⟩)) (.inr rfl), (h.kbelow (bnew _ _)).t (b.less (fun k hk => ⟨.inl hk, fun e => by have := hX k hk; omega⟩))⟩
  · rintro e W' (⟨rfl, a⟩ | ⟨_, a⟩)
    · exact ⟨rfl, a⟩
    · exact a.elim
/-- Open on a device that stands still. -/
theorem open_down (h : DvO w0 X p s W) (ok : Okd N B s) (hd : s.dead = true) (h4 : 4 ≤ n) (h256 : n ≤ 256) (hfr : fr + n ≤ N) (hN2 : N ≤ 4096) :
    Calls Tryz.prog 22 #[.pointer (some ⟨p, 0, none⟩), .int .i64 fr, .int .i64 n] W fun e W' => e = .returned (.tuple #[.pointer none, .int .i64 30]) ∧ Below W.heap.size W W' := by
  have hj := open_js (fr := fr) (n := n) h ok
  have hrec := recover_down hj hd (by omega)
  refine (open_with (Yes := fun _ => False) (No := fun W' => Below W.heap.size W W') h ok.hard h4 h256 hfr hN2 (hrec.mono ?_)).mono ?_
  · rintro e W' ⟨rfl, a⟩
    exact .inr ⟨rfl, bt (bnew _ _) a⟩
  · rintro e W' (⟨_, a⟩ | ⟨rfl, a⟩)
    · exact a.elim
    · exact ⟨rfl, a⟩
/-- What Open leaves where it lays. -/
def OcPost (w0 : World) (X : Nat → Prop) (p N B fr n g1 c1 : Nat) (s : DS) (l : Puts) (W : World) (e : Ending) (W' : World) : Prop :=
  ((runO s (recoverO fr g1 l)).2 = true ∧ e = .returned (.tuple #[.pointer (some ⟨W.heap.size, 0, none⟩), .int .i64 0]) ∧ JS w0 (fun k => X k ∨ k = W.heap.size) p W.heap.size N (B + wcount (recoverO fr g1 l)) fr n g1 c1 (runO s (recoverO fr g1 l)).1 W' ∧ Kb w0 X W W') ∨
  ((runO s (recoverO fr g1 l)).2 = false ∧ e = .returned (.tuple #[.pointer none, .int .i64 30]) ∧ DvO w0 X p (runO s (recoverO fr g1 l)).1 W' ∧ Okd N (B + wcount (recoverO fr g1 l)) (runO s (recoverO fr g1 l)).1 ∧ Kb w0 X W W')
theorem open_do (h : DvO w0 X p s W) (ok : Okd N B s) (hd : s.dead = false) (h4 : 4 ≤ n) (h256 : n ≤ 256) (hfr : fr + n ≤ N) (hN2 : N ≤ 4096) {m g1 c1 : Nat} (hm : IsMost n m) (hrd : readB (newest s fr) = (g1, c1)) (hg1 : g1 < 18446744073709551616) (hc0 : c1 ≠ 0) (hcm : c1 ≤ m) (l : Puts) (hl : keptP (newest s) fr c1 = l) (hpn : ∀ x ∈ l, x.1 < N ∧ x.2.size = 64) (hB : B + wcount (recoverO fr g1 l) ≤ 90000) :
    Calls Tryz.prog 22 #[.pointer (some ⟨p, 0, none⟩), .int .i64 fr, .int .i64 n] W (OcPost w0 X p N B fr n g1 c1 s l W) := by
  have hj := open_js (fr := fr) (n := n) h ok
  have hrec := recover_do hj hd hfr hN2 hm hrd hg1 hc0 hcm l hl hpn hB
  have hX : ∀ k, X k → k < W.heap.size := h.lt
  have hkk : ∀ {W'}, Kb w0 (fun k => (X k ∨ W.heap.size ≤ k ∧ k < (W.alloc (jnew p fr n)).heap.size) ∧ k ≠ W.heap.size) (W.alloc (jnew p fr n)) W' → Kb w0 X W W' := fun b => (h.kbelow (bnew _ _)).t (b.less (fun k hk => ⟨.inl hk, fun e => by have := hX k hk; omega⟩))
  refine (open_with (Yes := fun W' => (runO s (recoverO fr g1 l)).2 = true ∧ JS w0 (fun k => X k ∨ k = W.heap.size) p W.heap.size N (B + wcount (recoverO fr g1 l)) fr n g1 c1 (runO s (recoverO fr g1 l)).1 W' ∧ Kb w0 X W W') (No := fun W' => (runO s (recoverO fr g1 l)).2 = false ∧ DvO w0 X p (runO s (recoverO fr g1 l)).1 W' ∧ Okd N (B + wcount (recoverO fr g1 l)) (runO s (recoverO fr g1 l)).1 ∧ Kb w0 X W W') h ok.hard h4 h256 hfr hN2 (hrec.mono ?_)).mono ?_
  · rintro e W' (⟨hok, rfl, a, b⟩ | ⟨hok, rfl, a, b⟩)
    · exact .inl ⟨rfl, hok, a.less (fun k hk => hk.imp id (fun e => by subst e; exact ⟨Nat.le_refl _, by simp⟩)) (.inr rfl), hkk b⟩
    · exact .inr ⟨rfl, hok, a.dev.less (fun k hk => .inl hk), a.ok, hkk b⟩
  · rintro e W' (⟨rfl, a1, a2, a3⟩ | ⟨rfl, a1, a2, a3, a4⟩)
    · exact .inl ⟨a1, rfl, a2, a3⟩
    · exact .inr ⟨a1, rfl, a2, a3, a4⟩
end
end Go.Proofs.YtjjphcnoegaimaaGreat

namespace Go.Proofs.YtjjphcnoegaimaaGreat
open Go.RowKit Go.Shelf Go.Maps
set_option maxRecDepth 20000
set_option linter.unusedVariables false

/-- Nothing is under way. -/
structure JL (N fr g : Nat) (h : Nat → ByteArray) (s : DS) : Prop where
  hard : s.hard.length = N
  clean : Clean s h
  armed : s.armed = false
  dead : s.dead = false
  head : readB (h fr) = (g, 0)
theorem Ab.of_clean {s : DS} {h : Nat → ByteArray} (c : Clean s h) : Ab s (fun i => [h i]) := c
theorem clean_of {s : DS} {c : Cs} (h : Ab s c) {h' : Nat → ByteArray} {N : Nat} (hN : s.hard.length = N) (e : ∀ i, i < N → c i = [h' i]) : Clean s h' := fun i hi => by rw [h i hi, e i (by omega)]
theorem JL.crash {N fr g : Nat} {h : Nat → ByteArray} {s : DS} (j : JL N fr g h s) (keep : ByteArray) : JL N fr g h (crashS keep s) := ⟨(crash_hard keep s).trans j.hard, j.clean.crash keep, rfl, rfl, j.head⟩
theorem JL.newest {N fr g : Nat} {h : Nat → ByteArray} {s : DS} (j : JL N fr g h s) {i : Nat} (hi : i < N) : newest s i = h i := j.clean.newest (by rw [j.hard]; exact hi)
theorem newS_clean (N : Nat) : Clean (newS N) (fun _ => zsec) := by
  intro i hi
  have hi' : i < N := by simpa [newS] using hi
  show (List.replicate N zsec).getD i ByteArray.empty :: [] = [zsec]
  rw [List.getD_eq_getElem?_getD, List.getElem?_replicate, if_pos hi']
  rfl
theorem newS_JL (N fr : Nat) : JL N fr 0 (fun _ => zsec) (newS N) := ⟨by simp [newS], newS_clean N, rfl, rfl, readB_zsec⟩
theorem newS_ok (N : Nat) : Okd N 0 (newS N) := by
  refine ⟨by simp [newS], Int.le_refl _, by show (0 : Int) ≤ 1000; decide, (fun e => by cases e), Int.le_refl _, Int.le_refl _, fun j => Nat.le_refl _, fun i hi b hb => ?_⟩
  rw [newS_clean N i (by simpa [newS] using hi), List.mem_singleton] at hb
  rw [hb]; rfl

section
variable {N fr n g : Nat} {l : Puts} {h : Nat → ByteArray} {s : DS}
/-- A commit that is done. -/
theorem commit_whole (mp : MayP N fr n l) (hN : s.hard.length = N) (hc : Clean s h) (hok : (runO s (commitO fr g l)).2 = true) : ∃ h', Clean (runO s (commitO fr g l)).1 h' ∧ JC N fr n g l h h' := by
  obtain ⟨k, -, h2, h3⟩ := runO_ab (commitO fr g l) hc.ab
  obtain ⟨-, h', e, hj⟩ := commit_pre mp (c := fun i => [h i]) (fun i _ => rfl) (g := g)
  rw [h3 hok, List.take_of_length_le (Nat.le_refl _)] at h2
  exact ⟨h', clean_of h2 ((runO_hard _ _).trans hN) e, hj⟩
theorem commit_free (mp : MayP N fr n l) (j : JL N fr g h s) (hg : g + 1 < 18446744073709551616) : (runO s (commitO fr (g + 1) l)).2 = true ∧ ∃ h', JL N fr (g + 1) h' (runO s (commitO fr (g + 1) l)).1 ∧ ∀ i, Out N fr n i → h' i = laid h l i := by
  obtain ⟨a, b, c⟩ := runO_free (commitO fr (g + 1) l) j.armed j.dead
  obtain ⟨h', d, e⟩ := commit_whole mp j.hard j.clean a
  exact ⟨a, h', ⟨(runO_hard _ _).trans j.hard, d, b, c, by rw [e.1]; exact readB_head _ 0 hg (by decide)⟩, e.2⟩
/-- A commit that is torn. -/
theorem commit_torn (mp : MayP N fr n l) (hN : s.hard.length = N) (hc : Clean s h) (keep : ByteArray) : ∃ h', Clean (crashS keep (runO s (commitO fr g l)).1) h' ∧ (JA N fr n h h' ∨ JB N fr n g l h h' ∨ JC N fr n g l h h') := by
  obtain ⟨k, -, h2, -⟩ := runO_ab (commitO fr g l) hc.ab
  obtain ⟨f, h3, h4⟩ := h2.crash keep
  obtain ⟨hp, -⟩ := commit_pre mp (c := fun i => [h i]) (fun i _ => rfl) (g := g)
  rw [runO_hard, hN] at h4
  exact ⟨f, h3, hp k f h4⟩
/-- A recovery, torn or not. -/
theorem recover_torn (mp : MayP N fr n l) (hN : s.hard.length = N) {h0 : Nat → ByteArray} (hc : Clean s h) (hb : JB N fr n g l h0 h) (keep : ByteArray) : ∃ h', Clean (crashS keep (runO s (recoverO fr g l)).1) h' ∧ (JB N fr n g l h0 h' ∨ JC N fr n g l h0 h') := by
  obtain ⟨k, -, h2, -⟩ := runO_ab (recoverO fr g l) hc.ab
  obtain ⟨f, h3, h4⟩ := h2.crash keep
  obtain ⟨hp, -⟩ := recover_pre mp hb (c := fun i => [h i]) (fun i _ => rfl)
  rw [runO_hard, hN] at h4
  exact ⟨f, h3, hp k f h4⟩
theorem recover_whole (mp : MayP N fr n l) (hN : s.hard.length = N) {h0 : Nat → ByteArray} (hc : Clean s h) (hb : JB N fr n g l h0 h) (hok : (runO s (recoverO fr g l)).2 = true) : ∃ h', Clean (runO s (recoverO fr g l)).1 h' ∧ JC N fr n g l h0 h' := by
  obtain ⟨k, -, h2, h3⟩ := runO_ab (recoverO fr g l) hc.ab
  obtain ⟨-, h', e, hj⟩ := recover_pre mp hb (c := fun i => [h i]) (fun i _ => rfl)
  rw [h3 hok, List.take_of_length_le (Nat.le_refl _)] at h2
  exact ⟨h', clean_of h2 ((runO_hard _ _).trans hN) e, hj⟩
/-- What is kept where it is committed, and not done. -/
theorem kept_JB (mp : MayP N fr n l) {h0 : Nat → ByteArray} (hN : s.hard.length = N) (hc : Clean s h) (hb : JB N fr n g l h0 h) : keptP (newest s) fr l.length = l := by
  have hfit := mp.fit
  have hare := mp.area
  have hsm := mp.small
  refine kept_area _ fr l (fun x hx => by have := mp.put x hx; omega) (fun p hp => ?_)
  have hp' := hp
  rw [areaL_length] at hp'
  rw [hc.newest (by omega)]
  exact hb.2.1 p hp
end

section
variable {w0 w W W' : World} {X : Nat → Prop} {p jb N B fr n g r : Nat} {l : Puts} {h : Nat → ByteArray} {s : DS}
theorem wcount_recover (fr g : Nat) (l : Puts) : wcount (recoverO fr g l) = l.length + 1 := by
  rw [recoverO, wcount_append, wcount_lay]
  rfl
theorem wcount_commit (fr g : Nat) (l : Puts) : wcount (commitO fr g l) = (areaL l).length + 1 + (l.length + 1) := by
  rw [commitO, wcount_append, wcount_wrs]
  show _ + (wcount (recoverO fr g l) + 1) = _
  rw [wcount_recover]
  omega
theorem MayP.wc (mp : MayP N fr n l) (hn : n ≤ 256) (g : Nat) : wcount (commitO fr g l) ≤ 600 := by
  rw [wcount_commit, areaL_length]
  have := mp.fit
  omega
theorem commit_JL {v : Value} (l : Puts) (h1 : JS w0 X p jb N B fr n g r s W) (jl : JL N fr g h s) (hl : SlP w0 X W v (zP l)) {m : Nat} (hm : IsMost n m) (mp : MayP N fr n l) (hn : n ≤ 256) (hg : g + 1 < 18446744073709551616) (hB : B + 600 ≤ 90000) :
    Calls Tryz.prog 49 #[.pointer (some ⟨jb, 0, none⟩), v] W fun e W' => ∃ s' h', e = .returned (.tuple #[.int .u64 ((g + 1 : Nat) : Int), .int .i64 0]) ∧ JS w0 X p jb N (B + 600) fr n (g + 1) r s' W' ∧ JL N fr (g + 1) h' s' ∧ (∀ i, Out N fr n i → h' i = laid h l i) ∧ Kb w0 (fun k => X k ∧ k ≠ jb) W W' := by
  have hwc := mp.wc hn (g + 1)
  obtain ⟨hok, h', j1, j2⟩ := commit_free mp jl hg
  refine (commit_any l h1 hl hm mp hg (by omega)).mono ?_
  rintro e W' (⟨_, rfl, a, b⟩ | ⟨hno, _⟩)
  · exact ⟨_, h', rfl, a.mono (by omega), j1, j2, b⟩
  · rw [hok] at hno; cases hno
theorem open_JL (h1 : DvO w0 X p s W) (ok : Okd N B s) (jl : JL N fr g h s) (h4 : 4 ≤ n) (h256 : n ≤ 256) (hfr : fr + n ≤ N) (hN2 : N ≤ 4096) {m : Nat} (hm : IsMost n m) :
    Calls Tryz.prog 22 #[.pointer (some ⟨p, 0, none⟩), .int .i64 fr, .int .i64 n] W fun e W' => e = .returned (.tuple #[.pointer (some ⟨W.heap.size, 0, none⟩), .int .i64 0]) ∧ JS w0 (fun k => X k ∨ k = W.heap.size) p W.heap.size N B fr n g 0 s W' ∧ Kb w0 X W W' :=
  open_none h1 ok jl.dead h4 h256 hfr hN2 hm (by rw [jl.newest (by omega)]; exact jl.head) (.inl rfl)
theorem js_crash (h1 : JS w0 X p jb N B fr n g r s W) (hB : B ≤ 90000) (keep : ByteArray) : Calls Tryz.prog 21 #[.pointer (some ⟨p, 0, none⟩), .string keep] W fun e W' => e = .returned (.int .i64 0) ∧ JS w0 X p jb N B fr n g r (crashS keep s) W' ∧ Kb w0 X W W' := by
  refine (o_crash h1.dev keep (fun j => Nat.le_trans (h1.ok.rows j) (by omega))).mono ?_
  rintro e W' ⟨rfl, h2, hk⟩
  have hkb := h1.dev.kb h2 hk
  exact ⟨rfl, h1.step h2 hkb (h1.ok.crash keep), hkb⟩
theorem js_fuse (h1 : JS w0 X p jb N B fr n g r s W) (k : Int) (h0 : 0 ≤ k) (hk : k ≤ 1000) : Calls Tryz.prog 19 #[.pointer (some ⟨p, 0, none⟩), .int .i64 k] W fun e W' => e = .returned (.int .i64 0) ∧ JS w0 X p jb N B fr n g r (fuseS s k) W' ∧ Kb w0 X W W' := by
  refine (o_fuse h1.dev k h0).mono ?_
  rintro e W' ⟨rfl, h2, hx⟩
  have hkb := h1.dev.kb h2 hx
  exact ⟨rfl, h1.step h2 hkb (h1.ok.fuse k h0 hk), hkb⟩
end
end Go.Proofs.YtjjphcnoegaimaaGreat

namespace Go.Proofs.YtjjphcnoegaimaaGreat
open Go.RowKit Go.Shelf Go.Maps
set_option maxRecDepth 20000
set_option linter.unusedVariables false

section
variable {w0 w W W' : World} {X : Nat → Prop} {p jb N B fr n g r : Nat} {l : Puts} {h h' : Nat → ByteArray} {s : DS}
/-- What Open leaves behind a torn commit. -/
def OaPost (w0 : World) (X : Nat → Prop) (p N B fr n g : Nat) (l : Puts) (h : Nat → ByteArray) (W : World) (e : Ending) (W2 : World) : Prop :=
  ∃ (g2 r2 : Nat) (s2 : DS) (h2 : Nat → ByteArray), e = .returned (.tuple #[.pointer (some ⟨W.heap.size, 0, none⟩), .int .i64 0]) ∧ JS w0 (fun k => X k ∨ k = W.heap.size) p W.heap.size N (B + 600) fr n g2 r2 s2 W2 ∧ JL N fr g2 h2 s2 ∧ Kb w0 X W W2 ∧
    ((g2 = g ∧ ∀ i, Out N fr n i → h2 i = h i) ∨ (g2 = g + 1 ∧ ∀ i, Out N fr n i → h2 i = laid h l i))
theorem open_torn (h1 : DvO w0 X p s W) (ok : Okd N B s) (hd : s.dead = false) (ha : s.armed = false) (hc : Clean s h') (hh : readB (h fr) = (g, 0)) (mp : MayP N fr n l) (hj : JA N fr n h h' ∨ JB N fr n (g + 1) l h h' ∨ JC N fr n (g + 1) l h h') (hg : g + 1 < 18446744073709551616)
    (h4 : 4 ≤ n) (h256 : n ≤ 256) {m : Nat} (hm : IsMost n m) (hB : B + 600 ≤ 90000) :
    Calls Tryz.prog 22 #[.pointer (some ⟨p, 0, none⟩), .int .i64 fr, .int .i64 n] W (OaPost w0 X p N B fr n g l h W) := by
  have hN := ok.hard
  have hare := mp.area
  have hsm := mp.small
  have plain : ∀ (g2 : Nat), readB (h' fr) = (g2, 0) → ((g2 = g ∧ ∀ i, Out N fr n i → h' i = h i) ∨ (g2 = g + 1 ∧ ∀ i, Out N fr n i → h' i = laid h l i)) → Calls Tryz.prog 22 #[.pointer (some ⟨p, 0, none⟩), .int .i64 fr, .int .i64 n] W (OaPost w0 X p N B fr n g l h W) := by
    intro g2 hr2 hcase
    have jl : JL N fr g2 h' s := ⟨hN, hc, ha, hd, hr2⟩
    refine (open_JL h1 ok jl h4 h256 hare hsm hm).mono ?_
    rintro e W2 ⟨rfl, a, b⟩
    exact ⟨g2, 0, s, h', rfl, a.mono (by omega), jl, b, hcase⟩
  rcases hj with hA | hBB | hC
  · exact plain g (by rw [hA.1]; exact hh) (.inl ⟨rfl, hA.2⟩)
  · by_cases hl : l = []
    · subst hl
      refine plain (g + 1) (by rw [hBB.1]; exact readB_head (g + 1) 0 hg (by decide)) (.inr ⟨rfl, fun i hi => ?_⟩)
      rcases hBB.2.2 i hi with e | ⟨x, hx, _⟩
      · exact e
      · cases hx
    · have hlm := most_le hm mp.fit
      have hl0 : l.length ≠ 0 := fun e => hl (List.eq_nil_of_length_eq_zero e)
      have hfit := mp.fit
      have hrd : readB (newest s fr) = (g + 1, l.length) := by
        rw [hc.newest (by omega), hBB.1]
        exact readB_head (g + 1) l.length hg (by omega)
      have hwr := wcount_recover fr (g + 1) l
      refine (open_do h1 ok hd h4 h256 hare hsm hm hrd hg hl0 hlm l (kept_JB mp hN hc hBB) (fun x hx => by have := mp.put x hx; omega) (by omega)).mono ?_
      obtain ⟨fa, fb, fc⟩ := runO_free (recoverO fr (g + 1) l) ha hd
      obtain ⟨h2, c1, c2⟩ := recover_whole mp hN hc hBB fa
      rintro e W2 (⟨_, rfl, a, b⟩ | ⟨hno, _⟩)
      · exact ⟨g + 1, l.length, _, h2, rfl, a.mono (by omega), ⟨(runO_hard _ _).trans hN, c1, fb, fc, by rw [c2.1]; exact readB_head (g + 1) 0 hg (by decide)⟩, b, .inr ⟨rfl, c2.2⟩⟩
      · rw [fa] at hno; cases hno
  · exact plain (g + 1) (by rw [hC.1]; exact readB_head (g + 1) 0 hg (by decide)) (.inr ⟨rfl, hC.2⟩)
end
end Go.Proofs.YtjjphcnoegaimaaGreat
