/- Clocks over cells of which nothing is noted, as one predicate of a world; the chapter's example. -/
import Derived.Test.YthmabnigdnbdkaaClock
import Derived.Test.YthmabnigdnbdkaaSeqOff
namespace Go.Proofs.Ythmabnigdnbdkaa
open Go.RowKit
set_option maxRecDepth 100000

structure COff (w0 : World) (p m s : Nat) (base : Int) (N : List (Int × Int)) (W : World) : Prop where
  ex : ∃ sv, CellsAt W p m sv false N [] ∧ ∀ k, cfoot p m sv k → w0.heap.size ≤ k
  clk : ClkAt W s p base
  s : w0.heap.size ≤ s
  below : Below w0.heap.size w0 W

theorem COff.step {w0 w w' : World} {p m s : Nat} {base : Int} {N N' : List (Int × Int)} {sv : Value} (h : COff w0 p m s base N w) (hc : CellsAt w p m sv false N []) (hk : ∀ k, cfoot p m sv k → w0.heap.size ≤ k) (hst : CStep w p m sv false N' [] w') : COff w0 p m s base N' w' := by
  have hd := h.clk.apart hc
  obtain ⟨sv', a, b, c⟩ := hst
  have hsz := h.below.size
  refine ⟨⟨sv', a, ?_⟩, h.clk.fr b hd, h.s, Fr.step h.below b hsz hk⟩
  rintro k (rfl | rfl | hg)
  · exact hk _ (.inl rfl)
  · exact hk _ (.inr (.inl rfl))
  · rcases c with c | ⟨g, hg', hl⟩
    · exact hk _ (.inr (.inr (c ▸ hg)))
    · rw [hg] at hg'
      cases hg'
      omega
theorem COff.drew {w0 w : World} {p m s : Nat} {base : Int} {N : List (Int × Int)} (h : COff w0 p m s base N w) : COff w0 p m s base N w.drew := by
  obtain ⟨sv, hc, hk⟩ := h.ex
  exact ⟨⟨sv, hc.drew, hk⟩, h.clk, h.s, h.below.drew⟩
theorem COff.fr {w0 w w' : World} {p m s : Nat} {base : Int} {N : List (Int × Int)} (h : COff w0 p m s base N w) (hf : Fr (fun _ => False) w w') : COff w0 p m s base N w' := by
  obtain ⟨sv, hc, hk⟩ := h.ex
  exact ⟨⟨sv, hc.fr hf fun _ _ => id, hk⟩, h.clk.fr hf id, h.s, Fr.step h.below hf h.below.size (fun _ h => h.elim)⟩

/-- What a call of Stamp gives: the stamp, the error, the cells. -/
def cstep (base : Int) (N : List (Int × Int)) (core least : Int) : Int × Int × List (Int × Int) :=
  if chas core = false then (0, 2, N)
  else if 4611686018427387904 ≤ max (cwithin (nget (u64s base core) N)) least then (0, 4, N)
  else if 4611686018427387904 < cdraw (max (cwithin (nget (u64s base core) N)) least) core then (0, 4, N)
  else (cdraw (max (cwithin (nget (u64s base core) N)) least) core, 0, nput (u64s base core) (cdraw (max (cwithin (nget (u64s base core) N)) least) core) N)

theorem coff_stamp {w0 w : World} {p m s : Nat} {base : Int} {N : List (Int × Int)} (h : COff w0 p m s base N w) (core least d er : Int) (N' : List (Int × Int)) (hv : cstep base N core least = (d, er, N')) :
    Calls Try.prog 45 #[.pointer (some ⟨s, 0, none⟩), .int .i64 core, .int .u64 least] w fun e w' => e = .returned (.tuple #[.int .u64 d, .int .i64 er]) ∧ COff w0 p m s base N' w' := by
  obtain ⟨sv, hc, hk⟩ := h.ex
  unfold cstep at hv
  by_cases h1 : chas core = false
  · rw [if_pos h1] at hv
    cases hv
    refine (clk_stamp_no w s core least h1).mono ?_
    rintro e w' ⟨rfl, rfl⟩
    exact ⟨rfl, h⟩
  · rw [if_neg h1] at hv
    have h1' : chas core = true := by simpa using h1
    by_cases h2 : 4611686018427387904 ≤ max (cwithin (nget (u64s base core) N)) least
    · rw [if_pos h2] at hv
      cases hv
      refine (clk_stamp_full h.clk hc core least _ few0 h1' rfl h2).mono ?_
      rintro e w' ⟨rfl, hst⟩
      exact ⟨rfl, h.step hc hk hst⟩
    · rw [if_neg h2] at hv
      by_cases h3 : 4611686018427387904 < cdraw (max (cwithin (nget (u64s base core) N)) least) core
      · rw [if_pos h3] at hv
        cases hv
        refine (clk_stamp_over h.clk hc core least _ few0 h1' rfl (by omega) _ rfl h3).mono ?_
        rintro e w' ⟨rfl, hst⟩
        exact ⟨rfl, h.step hc hk hst⟩
      · rw [if_neg h3] at hv
        cases hv
        refine (clk_stamp_good h.clk hc core least _ few0 few0 h1' rfl (by omega) _ rfl (by omega)).mono ?_
        rintro e w' ⟨rfl, hst⟩
        exact ⟨rfl, h.step hc hk hst⟩
theorem coff_most {w0 w : World} {p m s : Nat} {base : Int} {N : List (Int × Int)} (h : COff w0 p m s base N w) (M : Int) (hM : cmost base N 8 = M) :
    Calls Try.prog 46 #[.pointer (some ⟨s, 0, none⟩)] w fun e w' => e = .returned (.int .u64 M) ∧ COff w0 p m s base N w' := by
  subst hM
  obtain ⟨sv, hc, hk⟩ := h.ex
  refine (clk_most h.clk hc).mono ?_
  rintro e w' ⟨rfl, hf⟩
  exact ⟨rfl, h.fr hf⟩
theorem coff_last {w0 w : World} {p m s : Nat} {base : Int} {N : List (Int × Int)} (h : COff w0 p m s base N w) (core v : Int) (h1 : chas core = true) (hv : cwithin (nget (u64s base core) N) = v) :
    Calls Try.prog 47 #[.pointer (some ⟨s, 0, none⟩), .int .i64 core] w fun e w' => e = .returned (.int .u64 v) ∧ COff w0 p m s base N w' := by
  subst hv
  obtain ⟨sv, hc, hk⟩ := h.ex
  refine (clk_last h.clk hc core h1).mono ?_
  rintro e w' ⟨rfl, hf⟩
  exact ⟨rfl, h.fr hf⟩
theorem coff_peek {w0 w : World} {p m s : Nat} {base : Int} {N : List (Int × Int)} (h : COff w0 p m s base N w) (k v : Int) (hv : nget k N = v) :
    Calls Try.prog 17 #[.pointer (some ⟨p, 0, none⟩), .int .u64 k] w fun e w' => e = .returned (.int .i64 v) ∧ COff w0 p m s base N w' := by
  subst hv
  obtain ⟨sv, hc, hk⟩ := h.ex
  refine (peek_any hc k).mono ?_
  rintro e w' ⟨rfl, rfl⟩
  exact ⟨rfl, h⟩
theorem coff_new {w w1 : World} {p m : Nat} {base : Int} (hc : CellsAt w1 p m (.slice none 0 0) false [] []) (hb : Below w.heap.size w w1) (hp : w.heap.size ≤ p) (hm : w.heap.size ≤ m) :
    Calls Try.prog 44 #[.pointer (some ⟨p, 0, none⟩), .int .u64 base] w1 fun e w' => e = .returned (.pointer (some ⟨w1.heap.size, 0, none⟩)) ∧ COff w p m w1.heap.size base [] w' := by
  refine (clk_new w1 p base).mono ?_
  rintro e w2 ⟨rfl, hq, rfl⟩
  refine ⟨rfl, ⟨_, hc.alloc _, ?_⟩, hq, hb.size, hb.alloc hb.size _⟩
  rintro k (rfl | rfl | hg)
  · exact hp
  · exact hm
  · cases hg

set_option maxHeartbeats 2000000 in
theorem alive16 (w : World) : Calls Try.prog 43 #[] w fun e w' => e = .returned (.bool true) ∧ Below w.heap.size w w' := by
  go_enter Try.func43, Try.ntmps43
  go_wp2_with fail
  refine (cells_new w).mono ?_
  rintro e w1 ⟨p, m, rfl, hc, hb, hp, hm⟩
  go_wp2_with fail
  refine (coff_new (base := 100) hc hb hp hm).mono ?_
  rintro e w2 ⟨rfl, h2⟩
  go_wp2_with fail
  refine (clk_new_nil w2 0).mono ?_
  rintro e w3 ⟨rfl, rfl⟩
  go_wp2_with fail
  refine (coff_stamp h2 2 0 2 0 [(102, 2)] (by decide)).mono ?_
  rintro e w3 ⟨rfl, h3⟩
  go_wp2_with fail
  refine (coff_stamp h3 2 0 10 0 [(102, 10)] (by decide)).mono ?_
  rintro e w4 ⟨rfl, h4⟩
  go_wp2_with fail
  refine (coff_stamp h4 1 10 17 0 (nput 101 17 [(102, 10)]) (by decide)).mono ?_
  rintro e w5 ⟨rfl, h5⟩
  go_wp2_with fail
  refine (coff_stamp h5 0 0 8 0 (nput 100 8 (nput 101 17 [(102, 10)])) (by decide)).mono ?_
  rintro e w6 ⟨rfl, h6⟩
  go_wp2_with fail
  refine (coff_stamp h6 8 0 0 2 (nput 100 8 (nput 101 17 [(102, 10)])) (by decide)).mono ?_
  rintro e w7 ⟨rfl, h7⟩
  go_wp2_with fail
  refine (clk_core w7 17 (by decide)).mono ?_
  rintro e w8 ⟨rfl, rfl⟩
  go_wp2_with fail
  refine (coff_most h7 17 (by decide)).mono ?_
  rintro e w8 ⟨rfl, h8⟩
  go_wp2_with fail
  refine (coff_last h8 2 10 (by decide) (by decide)).mono ?_
  rintro e w9 ⟨rfl, h9⟩
  go_wp2_with fail
  refine (coff_peek h9 102 10 (by decide)).mono ?_
  rintro e wa ⟨rfl, ha⟩
  go_wp2_with fail
  go_ret
  exact ⟨rfl, ha.below⟩
end Go.Proofs.Ythmabnigdnbdkaa
