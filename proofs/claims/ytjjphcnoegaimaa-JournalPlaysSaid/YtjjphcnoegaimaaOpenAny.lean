/- Open behind a crash, wherever a commit stood still. -/
import Derived.Test.YtjjphcnoegaimaaJState
namespace Go.Proofs.Ytjjphcnoegaimaa
open Go.RowKit Go.Shelf Go.Maps
set_option maxRecDepth 20000
set_option linter.unusedVariables false

section
variable {w0 w W W' : World} {X : Nat → Prop} {p jb N B fr n g r : Nat} {l : Puts} {h h' : Nat → ByteArray} {s : DS}
/-- What Open leaves behind a torn commit. -/
def OaPost (w0 : World) (X : Nat → Prop) (p N B fr n g : Nat) (l : Puts) (h : Nat → ByteArray) (W : World) (e : Ending) (W2 : World) : Prop :=
  ∃ (g2 r2 : Nat) (s2 : DS) (h2 : Nat → ByteArray), e = .returned (.tuple #[.pointer (some ⟨W.heap.size, 0, none⟩), .int .i64 0]) ∧ JS w0 (fun k => X k ∨ k = W.heap.size) p W.heap.size N (B + 600) fr n g2 r2 s2 W2 ∧ JL N fr g2 h2 s2 ∧ Kb w0 X W W2 ∧
    ((g2 = g ∧ ∀ i, Out N fr n i → h2 i = h i) ∨ (g2 = g + 1 ∧ ∀ i, Out N fr n i → h2 i = laid h l i))
theorem open_torn (h1 : DvO w0 X p s W) (ok : Okd N B s) (hd : s.dead = false) (ha : s.armed = false) (hc : Clean s h') (hh : readB (h fr) = (g, 0)) (mp : MayP N fr n l) (hj : JA N fr n h h' ∨ JB N fr n (g + 1) l h h' ∨ JC N fr n (g + 1) l h h') (hg : g + 1 < 18446744073709551616)
    (h4 : 4 ≤ n) (h256 : n ≤ 256) {m : Nat} (hm : IsMost n m) (hB : B + 600 ≤ 90000) :
    Calls Try.prog 32 #[.pointer (some ⟨p, 0, none⟩), .int .i64 fr, .int .i64 n] W (OaPost w0 X p N B fr n g l h W) := by
  have hN := ok.hard
  have hare := mp.area
  have hsm := mp.small
  have plain : ∀ (g2 : Nat), readB (h' fr) = (g2, 0) → ((g2 = g ∧ ∀ i, Out N fr n i → h' i = h i) ∨ (g2 = g + 1 ∧ ∀ i, Out N fr n i → h' i = laid h l i)) → Calls Try.prog 32 #[.pointer (some ⟨p, 0, none⟩), .int .i64 fr, .int .i64 n] W (OaPost w0 X p N B fr n g l h W) := by
    intro g2 hr2 hcase
    have jl : JL N fr g2 h' s := ⟨hN, hc, ha, hd, hr2⟩
    refine (open_JL h1 ok jl h4 h256 hare hsm hm).mono ?_
    rintro e W2 ⟨rfl, a, b⟩
    exact ⟨g2, 0, s, h', rfl, a.mono (by omega), jl, b, hcase⟩
  rcases hj with hA | hBB | hC
  · exact plain g (by rw [hA.1]; exact hh) (.inl ⟨rfl, hA.2⟩)
  · by_cases hl : l = []
    · subst hl
      refine plain (g + 1) (by rw [hBB.1]; exact readB_head (g + 1) 0 hg (by decide)) (.inr ⟨rfl, fun i hi => ?_⟩)
      rcases hBB.2.2 i hi with e | ⟨x, hx, _⟩
      · exact e
      · cases hx
    · have hlm := most_le hm mp.fit
      have hl0 : l.length ≠ 0 := fun e => hl (List.eq_nil_of_length_eq_zero e)
      have hfit := mp.fit
      have hrd : readB (newest s fr) = (g + 1, l.length) := by
        rw [hc.newest (by omega), hBB.1]
        exact readB_head (g + 1) l.length hg (by omega)
      have hwr := wcount_recover fr (g + 1) l
      refine (open_do h1 ok hd h4 h256 hare hsm hm hrd hg hl0 hlm l (kept_JB mp hN hc hBB) (fun x hx => by have := mp.put x hx; omega) (by omega)).mono ?_
      obtain ⟨fa, fb, fc⟩ := runO_free (recoverO fr (g + 1) l) ha hd
      obtain ⟨h2, c1, c2⟩ := recover_whole mp hN hc hBB fa
      rintro e W2 (⟨_, rfl, a, b⟩ | ⟨hno, _⟩)
      · exact ⟨g + 1, l.length, _, h2, rfl, a.mono (by omega), ⟨(runO_hard _ _).trans hN, c1, fb, fc, by rw [c2.1]; exact readB_head (g + 1) 0 hg (by decide)⟩, b, .inr ⟨rfl, c2.2⟩⟩
      · rw [fa] at hno; cases hno
  · exact plain (g + 1) (by rw [hC.1]; exact readB_head (g + 1) 0 hg (by decide)) (.inr ⟨rfl, hC.2⟩)
end
end Go.Proofs.Ytjjphcnoegaimaa
