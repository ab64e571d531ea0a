/- What package geo and the document's answer both give. -/
import Derived.Test.YtcdmipgopffaaaaGeoRef3
namespace Go.Proofs.Ytcdmipgopffaaaa
open Go.RowKit
set_option maxRecDepth 20000
set_option linter.unusedVariables false
set_option linter.unusedSimpArgs false

def gva (i b j : Int) : Value := .agg #[.int .i64 i, .int .i64 b, .int .i64 j]
theorem may_both (i b j : Int) : ∃ (m : Bool) (n : Int), (m = true ↔ Mays i b j) ∧
    (∀ w, Calls Try.prog 12 #[gva i b j] w fun e w' => e = .returned (.bool m) ∧ Below w.heap.size w w') ∧
    (∀ w, Calls Try.prog 21 #[gva i b j] w fun e w' => e = .returned (.bool m) ∧ Below w.heap.size w w') ∧
    (∀ w, Calls Try.prog 16 #[gva i b j] w fun e w' => e = .returned (.int .i64 n) ∧ Below w.heap.size w w') ∧
    (∀ w, Calls Try.prog 22 #[gva i b j] w fun e w' => e = .returned (.int .i64 n) ∧ Below w.heap.size w w') := by
  by_cases h : Mays i b j
  · exact ⟨true, fr i b j 6, by simp [h], geo_may_yes h, rmay_yes h, sectors_yes h, rsectors_yes h⟩
  · exact ⟨false, 0, by simp [h], geo_may_no h, rmay_no h, sectors_no h, rsectors_no h⟩
theorem part_both (i b j part : Int) : ∃ F N z : Int,
    (∀ w, Calls Try.prog 15 #[gva i b j, .int .i64 part] w fun e w' => e = .returned (.tuple #[.agg #[.int .i64 F, .int .i64 N], .int .i64 z]) ∧ Below w.heap.size w w') ∧
    (Mays i b j → ∀ w, Calls Try.prog 23 #[gva i b j, .int .i64 part] w fun e w' => e = .returned (.tuple #[.agg #[.int .i64 F, .int .i64 N], .int .i64 z]) ∧ Below w.heap.size w w') ∧
    (¬ Mays i b j → F = 0 ∧ N = 0 ∧ z = 2) := by
  by_cases h : Mays i b j
  · by_cases hp : 0 ≤ part ∧ part < 6
    · obtain ⟨p, rfl⟩ := Int.eq_ofNat_of_zero_le hp.1
      exact ⟨_, _, _, part_yes h p (by omega), fun _ => rpart_yes h p (by omega), fun e => absurd h e⟩
    · exact ⟨_, _, _, part_no (fun e => hp e.2), fun _ => rpart_no hp, fun e => absurd h e⟩
  · exact ⟨_, _, _, part_no (fun e => h e.1), fun e => absurd e h, fun _ => ⟨rfl, rfl, rfl⟩⟩
theorem inode_both (i b j n : Int) (n0 : 0 ≤ n) (n1 : n < 4294967296) : ∃ F N z : Int,
    (∀ w, Calls Try.prog 17 #[gva i b j, .int .u32 n] w fun e w' => e = .returned (.tuple #[.int .i64 F, .int .i64 N, .int .i64 z]) ∧ Below w.heap.size w w') ∧
    (Mays i b j → ∀ w, Calls Try.prog 24 #[gva i b j, .int .u32 n] w fun e w' => e = .returned (.tuple #[.int .i64 F, .int .i64 N, .int .i64 z]) ∧ Below w.heap.size w w') ∧
    (¬ Mays i b j → F = 0 ∧ N = 0 ∧ z = 2) ∧ -9000 ≤ F ∧ F ≤ 9000 ∧ 0 ≤ N ∧ N ≤ 9000 := by
  by_cases h : Mays i b j
  · by_cases hp : 1 ≤ n ∧ n ≤ i
    · have := fr_bd h (k := 4) (by decide)
      have := h.i1
      exact ⟨_, _, _, inode_yes h hp.1 hp.2, fun _ => rinode_yes h hp.1 hp.2, fun e => absurd h e, by omega, by omega, by omega, by omega⟩
    · exact ⟨_, _, _, inode_no (fun e => hp e.2) n0 n1, fun _ => rinode_no h hp n0 n1, fun e => absurd h e, by decide, by decide, by decide, by decide⟩
  · exact ⟨_, _, _, inode_no (fun e => h e.1) n0 n1, fun e => absurd e h, fun _ => ⟨rfl, rfl, rfl⟩, by decide, by decide, by decide, by decide⟩
theorem block_both (i b j n : Int) (n0 : 0 ≤ n) (n1 : n < 65536) : ∃ F z : Int,
    (∀ w, Calls Try.prog 18 #[gva i b j, .int .u16 n] w fun e w' => e = .returned (.tuple #[.int .i64 F, .int .i64 z]) ∧ Below w.heap.size w w') ∧
    (Mays i b j → ∀ w, Calls Try.prog 25 #[gva i b j, .int .u16 n] w fun e w' => e = .returned (.tuple #[.int .i64 F, .int .i64 z]) ∧ Below w.heap.size w w') ∧
    (¬ Mays i b j → F = 0 ∧ z = 2) := by
  by_cases h : Mays i b j
  · by_cases hp : 1 ≤ n ∧ n ≤ b
    · exact ⟨_, _, block_yes h hp.1 hp.2, fun _ => rblock_yes h hp.1 hp.2, fun e => absurd h e⟩
    · exact ⟨_, _, block_no (fun e => hp e.2) n0 n1, fun _ => rblock_no hp n0 n1, fun e => absurd h e⟩
  · exact ⟨_, _, block_no (fun e => h e.1) n0 n1, fun e => absurd e h, fun _ => ⟨rfl, rfl⟩⟩
theorem fr_find {i b j : Int} (h : Mays i b j) {s : Int} (h0 : 0 ≤ s) (h1 : s < fr i b j 6) : ∃ p, p < 6 ∧ fr i b j p ≤ s ∧ s < fr i b j (p + 1) := by
  have H : ∀ k, k ≤ 6 → s < fr i b j k → ∃ p, p < 6 ∧ fr i b j p ≤ s ∧ s < fr i b j (p + 1) := by
    intro k
    induction k with
    | zero => intro _ e; have : fr i b j 0 = 0 := rfl; omega
    | succ k ih =>
      intro hk e
      by_cases e2 : s < fr i b j k
      · exact ih (by omega) e2
      · exact ⟨k, by omega, by omega, e⟩
  exact H 6 (by omega) h1
theorem where_both (i b j s : Int) : ∃ P N z : Int,
    (∀ w, Calls Try.prog 19 #[gva i b j, .int .i64 s] w fun e w' => e = .returned (.tuple #[.int .i64 P, .int .i64 N, .int .i64 z]) ∧ Below w.heap.size w w') ∧
    (Mays i b j → ∀ w, Calls Try.prog 26 #[gva i b j, .int .i64 s] w fun e w' => e = .returned (.tuple #[.int .i64 P, .int .i64 N, .int .i64 z]) ∧ Below w.heap.size w w') ∧
    (¬ Mays i b j → P = 0 ∧ N = 0 ∧ z = 2) := by
  by_cases h : Mays i b j
  · by_cases hp : 0 ≤ s ∧ s < fr i b j 6
    · obtain ⟨p, hp6, p0, p1⟩ := fr_find h hp.1 hp.2
      refine ⟨_, _, _, where_yes h hp6 p0 p1, fun _ w => ?_, fun e => absurd h e⟩
      have := rwhere_any h s p (by omega) (.inr ⟨hp6, p0, p1⟩) w
      rw [if_neg (by omega)] at this
      exact this
    · refine ⟨_, _, _, where_no (fun e => hp e.2), fun _ w => ?_, fun e => absurd h e⟩
      have := rwhere_any h s 6 (by omega) (.inl ⟨rfl, by omega⟩) w
      rw [if_pos rfl] at this
      exact this
  · exact ⟨_, _, _, where_no (fun e => h e.1), fun e => absurd e h, fun _ => ⟨rfl, rfl, rfl⟩⟩
theorem super_both (i b j : Int) : ∃ (T : ByteArray) (z : Int),
    (∀ w, Calls Try.prog 11 #[gva i b j] w fun e w' => e = .returned (.tuple #[.string T, .int .i64 z]) ∧ Below w.heap.size w w') ∧
    (Mays i b j → z = 0 ∧ ∀ w, Calls Try.prog 27 #[gva i b j] w fun e w' => e = .returned (.string T) ∧ Below w.heap.size w w') ∧
    (¬ Mays i b j → T = ⟨#[]⟩ ∧ z = 2) := by
  by_cases h : Mays i b j
  · exact ⟨_, _, super_yes h, fun _ => ⟨rfl, rsuper_any h⟩, fun e => absurd h e⟩
  · exact ⟨_, _, super_no h, fun e => absurd e h, fun _ => ⟨rfl, rfl⟩⟩
theorem read_both (l : List UInt8) (hl : l.length ≤ 100000) : ∃ X Y U z : Int,
    (∀ w, Calls Try.prog 14 #[.string (bs l)] w fun e w' => e = .returned (.tuple #[.agg #[.int .i64 X, .int .i64 Y, .int .i64 U], .int .i64 z]) ∧ Below w.heap.size w w') ∧
    (∀ w, Calls Try.prog 20 #[.string (bs l)] w fun e w' => e = .returned (.tuple #[.agg #[.int .i64 X, .int .i64 Y, .int .i64 U], .int .i64 z]) ∧ Below w.heap.size w w') := by
  by_cases h : l.length = 64
  · by_cases hy : Mays (val l 0) (val l 1) (val l 2) ∧ sup (val l 0) (val l 1) (val l 2) = l
    · refine ⟨val l 0, val l 1, val l 2, 0, fun w => ?_, fun w => (rread_long h w).mono (fun e w' hh => ⟨hh.2.1 hy, hh.1⟩)⟩
      have := read_yes hy.1 w
      rw [hy.2] at this
      exact this
    · refine ⟨0, 0, 0, 7, fun w => ?_, fun w => (rread_long h w).mono (fun e w' hh => ⟨hh.2.2 hy, hh.1⟩)⟩
      refine read_no (by omega) (fun a c d hm e => hy ?_) w
      obtain ⟨e0, e1, e2⟩ := sup_val hm
      rw [e] at e0 e1 e2
      rw [e0, e1, e2]
      exact ⟨hm, e⟩
  · exact ⟨0, 0, 0, 7, fun w => read_short (by omega) h w, fun w => rread_short h hl w⟩
end Go.Proofs.Ytcdmipgopffaaaa
