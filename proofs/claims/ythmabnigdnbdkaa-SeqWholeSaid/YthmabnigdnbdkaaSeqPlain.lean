/- The plain law of a sequence counter: a writer's steps, a reader between. -/
import Derived.Test.YthmabnigdnbdkaaBase
namespace Go.Proofs.Ythmabnigdnbdkaa
open Go.RowKit

/-- How often the counter was turned, behind W steps of the writer. -/
def cn (W : Nat) : Nat := 2 * (W / 5) + (if W % 5 = 0 then 0 else 1)
/-- What the j-th cell has, behind W steps of the writer. -/
def cv (j W : Nat) : Nat := (W + 3 - j) / 5

theorem cn_turn {W : Nat} (h : W % 5 = 0 ∨ W % 5 = 4) : cn (W + 1) = cn W + 1 := by unfold cn; split <;> split <;> omega
theorem cn_stay {W : Nat} (h : W % 5 ≠ 0) (h' : W % 5 ≠ 4) : cn (W + 1) = cn W := by
  unfold cn
  rw [if_neg (by omega), if_neg h]
  omega
theorem cv_set {j W : Nat} (hj : j < 3) (h : W % 5 = j + 1) : cv j (W + 1) = W / 5 + 1 := by unfold cv; omega
theorem cv_stay {j W : Nat} (hj : j < 3) (h : W % 5 ≠ j + 1) : cv j (W + 1) = cv j W := by unfold cv; omega
theorem cn_mono {a b : Nat} (h : a ≤ b) : cn a ≤ cn b := by unfold cn; split <;> split <;> omega
theorem cn_even {a : Nat} : cn a % 2 = 0 ↔ a % 5 = 0 := by unfold cn; split <;> omega
theorem cn_eq {a b : Nat} (h : cn a = cn b) (ha : a % 5 = 0) : b = a := by
  have hb := cn_even (a := b)
  rw [← h] at hb
  have := hb.1 (cn_even.2 ha)
  unfold cn at h
  rw [if_pos ha, if_pos this] at h
  omega

theorem wrap64_inj {f a b : Int} (h : wrap64 (f + a) = wrap64 (f + b)) (h1 : a - b < 18446744073709551616) (h2 : b - a < 18446744073709551616) : a = b := by
  unfold wrap64 at h
  omega
theorem wrap64_even {f : Int} (hf : f % 2 = 0) (c : Nat) : (wrap64 (f + c)).tmod 2 = 0 ↔ c % 2 = 0 := by
  have : (wrap64 (f + c)).tmod 2 = 0 ↔ (wrap64 (f + c)) % 2 = 0 := by
    rw [← Int.dvd_iff_tmod_eq_zero, Int.dvd_iff_emod_eq_zero]
  rw [this]
  unfold wrap64
  omega

/-- A reader: how far it is, what it read, since which step of the writer. -/
structure Rd where
  at_ : Nat
  v : Int
  g0 : Int
  g1 : Int
  g2 : Int
  since : Nat
def Rd.zero : Rd := ⟨0, 0, 0, 0, 0, 0⟩

structure Rd.Ok (f : Int) (W : Nat) (r : Rd) : Prop where
  at_ : r.at_ ≤ 4
  since : r.since ≤ W
  v : 1 ≤ r.at_ → r.v = wrap64 (f + cn r.since)
  g0 : 2 ≤ r.at_ → ∃ t, r.since ≤ t ∧ t ≤ W ∧ r.g0 = cv 0 t
  g1 : 3 ≤ r.at_ → ∃ t, r.since ≤ t ∧ t ≤ W ∧ r.g1 = cv 1 t
  g2 : 4 ≤ r.at_ → ∃ t, r.since ≤ t ∧ t ≤ W ∧ r.g2 = cv 2 t

theorem Rd.Ok.later {f : Int} {W : Nat} {r : Rd} (h : r.Ok f W) : r.Ok f (W + 1) :=
  ⟨h.at_, by have := h.since; omega, h.v, fun k => by obtain ⟨t, a, b, c⟩ := h.g0 k; exact ⟨t, a, by omega, c⟩, fun k => by obtain ⟨t, a, b, c⟩ := h.g1 k; exact ⟨t, a, by omega, c⟩, fun k => by obtain ⟨t, a, b, c⟩ := h.g2 k; exact ⟨t, a, by omega, c⟩⟩
theorem Rd.Ok.zero (f : Int) (W : Nat) : Rd.Ok f W Rd.zero := ⟨by decide, Nat.zero_le _, fun h => absurd h (by decide), fun h => absurd h (by decide), fun h => absurd h (by decide), fun h => absurd h (by decide)⟩

/-- The law: where it is the same, all stood so at once. -/
theorem Rd.Ok.whole {f : Int} (hf : f % 2 = 0) {W : Nat} (hW : W ≤ 1000) {r : Rd} (h : r.Ok f W) (h4 : r.at_ = 4) (he : wrap64 (f + cn W) = r.v) (hv : r.v.tmod 2 = 0) : r.g0 = r.g1 ∧ r.g1 = r.g2 ∧ r.g0 = ((r.since / 5 : Nat) : Int) ∧ r.since = W := by
  have hs := h.since
  have hve := h.v (by omega)
  rw [hve] at he hv
  have hm := cn_mono hs
  have hb : cn W ≤ 2 * W + 1 := by unfold cn; split <;> omega
  have heq : cn W = cn r.since := by
    have := wrap64_inj he (by omega) (by omega)
    omega
  have h5 : r.since % 5 = 0 := cn_even.1 ((wrap64_even hf _).1 hv)
  have hsW := cn_eq heq.symm h5
  obtain ⟨t0, a0, b0, e0⟩ := h.g0 (by omega)
  obtain ⟨t1, a1, b1, e1⟩ := h.g1 (by omega)
  obtain ⟨t2, a2, b2, e2⟩ := h.g2 (by omega)
  obtain rfl : t0 = W := by omega
  obtain rfl : t1 = t0 := by omega
  obtain rfl : t2 = t1 := by omega
  have c0 : cv 0 t2 = t2 / 5 := by unfold cv; omega
  have c1 : cv 1 t2 = t2 / 5 := by unfold cv; omega
  have c2 : cv 2 t2 = t2 / 5 := by unfold cv; omega
  rw [e0, e1, e2, c0, c1, c2, ← hsW]
  exact ⟨rfl, rfl, rfl, rfl⟩

/-- .. and where nothing was written, and nobody writes, it is the same. -/
theorem Rd.Ok.same {f : Int} (hf : f % 2 = 0) {W : Nat} {r : Rd} (h : r.Ok f W) (h4 : r.at_ = 4) (hW : W = r.since) (h5 : W % 5 = 0) : wrap64 (f + cn W) = r.v ∧ r.v.tmod 2 = 0 := by
  have hve := h.v (by omega)
  rw [hve, hW]
  exact ⟨rfl, (wrap64_even hf _).2 (cn_even.2 (by omega))⟩
end Go.Proofs.Ythmabnigdnbdkaa
