/- A region that draws its order, in a round of a range over a function: its reads once, in the order of the text; then its tail. -/
import Derived.Test.YtjjphcnoegaimaaBase
import Derived.StillTail
import Derived.StillTactics
import Derived.StillTailTactics
import Derived.TacticsIn
import Derived.RangeFuncCalls
namespace Go.Proofs.Ytjjphcnoegaimaa
open Go.RowKit

/-- No operation of the row defers a call. -/
def noDefer (ops : Array Oper) : Bool := ops.all fun o => match o.op with | .defer _ => false | _ => true
theorem noDefer_spec {ops : Array Oper} (h : noDefer ops = true) {i : Nat} {o : Oper} (ho : ops[i]? = some o) : ∀ c, o.op ≠ .defer c := by
  obtain ⟨hi, e⟩ := Array.getElem?_eq_some_iff.1 ho
  have := Array.all_eq_true.1 h i hi
  rw [e] at this
  intro c hc
  rw [hc] at this
  cases this

theorem Oper.wpIn_round {P : Program} {n l : Nat} {o : Oper} {a : Act} {w : World} {K : Act → World → Prop} {Q : Exit → Act → World → Prop} (hd : ∀ c, o.op ≠ .defer c) (h : o.wp P a w K Q) : o.wpIn (Fence.wide.inRound l) n P a w K Q := by
  refine ⟨fun _ _ => trivial, ?_⟩
  rw [Oper.semAt_eq _ _ _ hd]
  unfold Oper.wp at h
  generalize (execOp a.eval o).run P w = r at *
  cases r with
  | ok x w' =>
    cases x with
    | value v => exact h
    | skip => exact h
    | defer d => exact h
    | enter f args =>
      rw [Oper.uponIn_enter]
      refine ⟨fun e => (by cases e), CallsIn.inRound l (callsIn_wide.2 ?_)⟩
      exact Calls.mono h (fun e w'' he => by cases e <;> exact he)
    | row row args =>
      rw [Oper.uponIn_row]
      refine ⟨fun e => (by cases e), fun c cs _ => ?_⟩
      have h' : Rows P row args w' (fun v w'' => K (a.put o.dst v) w'') := h
      obtain ⟨v, w'', r, s⟩ := h' c cs
      exact ⟨v, w'', r, stepsIn_wide.2 s⟩
    | _ => exact h.elim
  | halt x w' =>
    cases x with
    | panic v => exact h
    | _ => exact h.elim

theorem wpAnyIn_round {P : Program} {n l : Nat} {md : Region.Mode} {ops : Array Oper} {Q : Exit → Act → World → Prop} (hd : noDefer ops = true) (hQ : ¬ LetsOut Q) :
    ∀ (fuel : Nat) (listed : Array Bool) (a : Act) (w : World), wpAny P md ops Q fuel listed a w → wpAnyIn (Fence.wide.inRound l) n P md ops Q fuel listed a w
  | 0, _, _, _, h => h
  | fuel + 1, listed, a, w, h => by
    refine ⟨h.1, fun i hi => ?_⟩
    have h2 := h.2 i hi
    unfold wpOp at h2
    unfold wpOpIn
    split
    · rename_i e
      simp only [e] at h2
      exact wpAnyIn_round hd hQ fuel _ _ _ h2
    · rename_i o e
      simp only [e] at h2
      split
      · rename_i hw
        simp only [hw, if_true] at h2
        rcases h2 with h2 | h2
        · exact Oper.wpIn_round (noDefer_spec hd e) (Oper.wp_mono (fun a' w' h' => wpAnyIn_round hd hQ fuel _ a' w' h') h2)
        · exact absurd h2.2 hQ
      · rename_i hw
        simp only [hw, Bool.false_eq_true, if_false] at h2
        exact ⟨fun _ _ => trivial, wpAnyIn_round hd hQ fuel _ _ _ h2⟩

/-- Reads first, once, in the order of the text; then what is behind them. -/
theorem wpIn_region_still_tail_round {P : Program} {id n k : Nat} {Q : Exit → Act → World → Prop} {a : Act} {w : World} {l : List Oper} (r : Nat) (hm : P.follows .mixedOrders = true) (hB : Region.lexTailB .any l.toArray r = true) (hd : noDefer l.toArray = true) (hQ : ¬ LetsOut Q)
    (h : wpStill P l.toArray w.drew (fun a' => wpList P l.toArray Q (l.drop r) a' w.drew) (l.take r) a) : (Code.region id l.toArray true).wpIn (Fence.wide.inRound k) n P Q a w := by
  simp only [Region.lexTailB, Bool.and_eq_true, decide_eq_true_eq] at hB
  obtain ⟨⟨⟨⟨hsel, hn⟩, hs⟩, hc⟩, hlex⟩ := hB
  have hn' : r < l.length := by simpa using hn
  have htl : (l.take r).length = r := by simp; omega
  have hdl : (l.drop r).length = l.toArray.size - r := by simp
  have inv0 : HeadInv .any l.toArray r (Array.replicate l.toArray.size false) :=
    ⟨by simp, fun j oj _ hl => (by rw [getD_replicate_false] at hl; cases hl), fun t _ ht => getD_in (by simpa using ht) (getD_replicate_false _ _)⟩
  have H := wpAnyL_lex (md := .any) (g := l.toArray.size - r) hsel hs hc hn (l.take r) 0 _ a (fun j hj => by
    have hj' : j < r := by rw [htl] at hj; exact hj
    simp [hj']) (by simpa using htl) inv0 (by rw [htl]; exact hlex) h
  refine wpIn_region_any hm ?_
  have := wpAny_of_head (Q' := Q) (g := l.toArray.size - r) (fun listed a' hL => by
    have := wpAny_of_seq (md := .any) (Q' := Q) (l.drop r) r listed a' w.drew (fun j => by simp [List.getElem?_drop]) (by rw [hdl]; exact hL.1) hL.2
    rwa [hdl] at this) _ _ _ H
  rw [htl, show r + (l.toArray.size - r) = l.toArray.size by omega] at this
  exact wpAnyIn_round hd hQ _ _ _ _ this
end Go.Proofs.Ytjjphcnoegaimaa
