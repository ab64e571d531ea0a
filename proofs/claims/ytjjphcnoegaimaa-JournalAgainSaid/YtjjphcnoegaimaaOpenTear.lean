/- Open on a device that may stand still in it. -/
import Derived.Test.YtjjphcnoegaimaaOpenAny
namespace Go.Proofs.Ytjjphcnoegaimaa
open Go.RowKit Go.Shelf Go.Maps
set_option maxRecDepth 20000
set_option linter.unusedVariables false

section
variable {w0 w W W' : World} {X : Nat → Prop} {p jb N B fr n g r : Nat} {l : Puts} {h h' : Nat → ByteArray} {s : DS}
theorem d_fuse (h1 : DvO w0 X p s W) (ok : Okd N B s) (k : Int) (h0 : 0 ≤ k) (hk : k ≤ 1000) : Calls Try.prog 23 #[.pointer (some ⟨p, 0, none⟩), .int .i64 k] W fun e W' => e = .returned (.int .i64 0) ∧ DvO w0 X p (fuseS s k) W' ∧ Okd N B (fuseS s k) ∧ Kb w0 X W W' := by
  refine (o_fuse h1 k h0).mono ?_
  rintro e W' ⟨rfl, h2, hx⟩
  exact ⟨rfl, h2, ok.fuse k h0 hk, h1.kb h2 hx⟩
theorem d_crash (h1 : DvO w0 X p s W) (ok : Okd N B s) (hB : B ≤ 90000) (keep : ByteArray) : Calls Try.prog 22 #[.pointer (some ⟨p, 0, none⟩), .string keep] W fun e W' => e = .returned (.int .i64 0) ∧ DvO w0 X p (crashS keep s) W' ∧ Okd N B (crashS keep s) ∧ Kb w0 X W W' := by
  refine (o_crash h1 keep (fun j => Nat.le_trans (ok.rows j) (by omega))).mono ?_
  rintro e W' ⟨rfl, h2, hk⟩
  exact ⟨rfl, h2, ok.crash keep, h1.kb h2 hk⟩
/-- Where a commit stood still. -/
def JX (N fr n g : Nat) (l : Puts) (h h' : Nat → ByteArray) : Prop := JA N fr n h h' ∨ JB N fr n (g + 1) l h h' ∨ JC N fr n (g + 1) l h h'
/-- What Open leaves on a device that may stand still. -/
def OtPost (w0 : World) (X : Nat → Prop) (p N B fr n g : Nat) (l : Puts) (h : Nat → ByteArray) (W : World) (e : Ending) (W2 : World) : Prop :=
  ∃ (v : Value) (c : Int) (s2 : DS), e = .returned (.tuple #[v, .int .i64 c]) ∧ DvO w0 X p s2 W2 ∧ Okd N (B + 600) s2 ∧ (∀ keep, ∃ h2, Clean (crashS keep s2) h2 ∧ JX N fr n g l h h2) ∧ Kb w0 X W W2
theorem open_tear (h1 : DvO w0 X p s W) (ok : Okd N B s) (hc : Clean s h') (hh : readB (h fr) = (g, 0)) (mp : MayP N fr n l) (hj : JX N fr n g l h h') (hg : g + 1 < 18446744073709551616)
    (h4 : 4 ≤ n) (h256 : n ≤ 256) {m : Nat} (hm : IsMost n m) (hB : B + 600 ≤ 90000) :
    Calls Try.prog 32 #[.pointer (some ⟨p, 0, none⟩), .int .i64 fr, .int .i64 n] W (OtPost w0 X p N B fr n g l h W) := by
  have hN := ok.hard
  have hare := mp.area
  have hsm := mp.small
  have hstay : ∀ keep, ∃ h2, Clean (crashS keep s) h2 ∧ JX N fr n g l h h2 := fun keep => ⟨h', hc.crash keep, hj⟩
  cases hd : s.dead
  · have plain : ∀ (g2 : Nat), readB (newest s fr) = (g2, 0) → Calls Try.prog 32 #[.pointer (some ⟨p, 0, none⟩), .int .i64 fr, .int .i64 n] W (OtPost w0 X p N B fr n g l h W) := by
      intro g2 hr2
      refine (open_none h1 ok hd h4 h256 hare hsm hm hr2 (.inl rfl)).mono ?_
      rintro e W2 ⟨rfl, a, b⟩
      exact ⟨_, _, s, rfl, a.dev.less (fun k hk => .inl hk), ok.mono (by omega), hstay, b⟩
    have hnw := hc.newest (i := fr) (by have := mp.fit; omega)
    rcases hj with hA | hBB | hC
    · exact plain g (by rw [hnw, hA.1]; exact hh)
    · by_cases hl : l = []
      · subst hl
        exact plain (g + 1) (by rw [hnw, hBB.1]; exact readB_head (g + 1) 0 hg (by decide))
      · have hlm := most_le hm mp.fit
        have hl0 : l.length ≠ 0 := fun e => hl (List.eq_nil_of_length_eq_zero e)
        have hfit := mp.fit
        have hrd : readB (newest s fr) = (g + 1, l.length) := by
          rw [hnw, hBB.1]
          exact readB_head (g + 1) l.length hg (by omega)
        have hwr := wcount_recover fr (g + 1) l
        have ht : ∀ keep, ∃ h2, Clean (crashS keep (runO s (recoverO fr (g + 1) l)).1) h2 ∧ JX N fr n g l h h2 := fun keep => by
          obtain ⟨h2, a, b⟩ := recover_torn mp hN hc hBB keep
          exact ⟨h2, a, .inr b⟩
        refine (open_do h1 ok hd h4 h256 hare hsm hm hrd hg hl0 hlm l (kept_JB mp hN hc hBB) (fun x hx => by have := mp.put x hx; omega) (by omega)).mono ?_
        rintro e W2 (⟨_, rfl, a, b⟩ | ⟨_, rfl, a, a2, b⟩)
        · exact ⟨_, _, _, rfl, a.dev.less (fun k hk => .inl hk), a.ok.mono (by omega), ht, b⟩
        · exact ⟨_, _, _, rfl, a, a2.mono (by omega), ht, b⟩
    · exact plain (g + 1) (by rw [hnw, hC.1]; exact readB_head (g + 1) 0 hg (by decide))
  · refine (open_down h1 ok hd h4 h256 hare hsm).mono ?_
    rintro e W2 ⟨rfl, a⟩
    exact ⟨_, _, s, rfl, h1.of a, ok.mono (by omega), hstay, h1.kbelow a⟩
end
end Go.Proofs.Ytjjphcnoegaimaa
