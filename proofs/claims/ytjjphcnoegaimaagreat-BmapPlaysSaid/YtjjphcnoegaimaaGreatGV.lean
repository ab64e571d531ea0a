/- A drawn region walked in the order of its text, where two operations may come up at once; its ways joined again. -/
import Derived.Test.YtjjphcnoegaimaaGreatGA
namespace Go.Proofs.YtjjphcnoegaimaaGreat
open Go.RowKit
set_option linter.unusedSimpArgs false

section
variable {P : Program} {md : Region.Mode} {l : List Oper} {Q : Exit → Act → World → Prop} {S : World → Prop}
/-- Two operations may come up. -/
theorem wpAnyH_two {i j : Nat} {oi oj : Oper} {fuel : Nat} {listed : Array Bool} {a : Act} {w : World} (hr : Region.ready md l.toArray listed = [i, j]) (hi : l[i]? = some oi) (hj : l[j]? = some oj)
    (hwi : Region.wanted oi (yielded l.toArray a.tmps) = true) (hwj : Region.wanted oj (yielded l.toArray a.tmps) = true)
    (h1 : ∀ K' : Act → World → Prop, Shut (∀ a w, S w → (S w → wpAnyH P md l.toArray Q S fuel (listed.setIfInBounds i true) a w) → K' a w) → Oper.wp P oi a w K' Q)
    (h2 : ∀ K' : Act → World → Prop, Shut (∀ a w, S w → (S w → wpAnyH P md l.toArray Q S fuel (listed.setIfInBounds j true) a w) → K' a w) → Oper.wp P oj a w K' Q) : wpAnyH P md l.toArray Q S (fuel + 1) listed a w :=
  wpAnyH_ready hr (by simp) (AllReadyH.cons (get_list hi) (fun K hK => by rw [if_pos hwi]; exact h1 K hK) (AllReadyH.cons (get_list hj) (fun K hK => by rw [if_pos hwj]; exact h2 K hK) AllReadyH.nil))
end
/-- A region's ways joined: it makes a block, whichever. -/
theorem region_mid {P : Program} {id : Nat} {ops : Array Oper} {b : Bool} {Q : Exit → Act → World → Prop} {a : Act} {w : World} (F : Nat → Act) (R : Nat → World → Prop)
    (h : (Code.region id ops b).wp P (NoPanic fun e a' w' => e = .normal ∧ ∃ nb, a' = F nb ∧ R nb w') a w) (hc : ∀ nb w', R nb w' → Q .normal (F nb) w') : (Code.region id ops b).wp P Q a w :=
  Code.wp_mono (fun e a' w' h => by
    cases e with
    | normal =>
      obtain ⟨-, nb, rfl, hr⟩ := h
      exact hc nb w' hr
    | panic c => exact h.elim
    | ret => exact absurd h.1 (by simp)
    | exit id => exact absurd h.1 (by simp)
    | goto t => exact absurd h.1 (by simp)
    | outgrown => exact absurd h.1 (by simp)) h
/-- A region's ways joined: it makes a block and gives a value, whichever. -/
theorem region_mid2 {P : Program} {id : Nat} {ops : Array Oper} {b : Bool} {Q : Exit → Act → World → Prop} {a : Act} {w : World} (F : Nat → Value → Act) (R : Nat → Value → World → Prop)
    (h : (Code.region id ops b).wp P (NoPanic fun e a' w' => e = .normal ∧ ∃ nb v, a' = F nb v ∧ R nb v w') a w) (hc : ∀ nb v w', R nb v w' → Q .normal (F nb v) w') : (Code.region id ops b).wp P Q a w :=
  Code.wp_mono (fun e a' w' h => by
    cases e with
    | normal =>
      obtain ⟨-, nb, v, rfl, hr⟩ := h
      exact hc nb v w' hr
    | panic c => exact h.elim
    | ret => exact absurd h.1 (by simp)
    | exit id => exact absurd h.1 (by simp)
    | goto t => exact absurd h.1 (by simp)
    | outgrown => exact absurd h.1 (by simp)) h
end Go.Proofs.YtjjphcnoegaimaaGreat
