/- package geo: the walks through May, up, sizes. -/
import Derived.Test.YtcdmipgopffaaaaProg
import Derived.Test.YtcdmipgopffaaaaBase2
import Derived.Deep.RegionHeld3
import Derived.Deep.QuietTactic
import Derived.BigQuiet
import Derived.StillTailTactics
namespace Go.Proofs.Ytcdmipgopffaaaa
open Go.RowKit
set_option maxRecDepth 20000

/-- A geometry that may be. -/
structure Mays (i b j : Int) : Prop where
  i0 : 2 ≤ i
  i1 : i ≤ 256
  b0 : 8 ≤ b
  b1 : b ≤ 1024
  j0 : 40 ≤ j
  j1 : j ≤ 256
theorem mays_iff {i b j : Int} : Mays i b j ↔ (2 ≤ i ∧ i ≤ 256) ∧ (8 ≤ b ∧ b ≤ 1024) ∧ (40 ≤ j ∧ j ≤ 256) :=
  ⟨fun h => ⟨⟨h.i0, h.i1⟩, ⟨h.b0, h.b1⟩, ⟨h.j0, h.j1⟩⟩, fun h => ⟨h.1.1, h.1.2, h.2.1.1, h.2.1.2, h.2.2.1, h.2.2.2⟩⟩
instance (i b j : Int) : Decidable (Mays i b j) := decidable_of_iff _ mays_iff.symm

/-- A geometry as a value. -/
def gv (i b j : Int) : Value := .agg #[.int .i64 i, .int .i64 b, .int .i64 j]

set_option maxHeartbeats 400000 in
theorem in_yes (v a b : Int) (h0 : a ≤ v) (h1 : v ≤ b) (w : World) : Calls Try.prog 43 #[.int .i64 v, .int .i64 a, .int .i64 b] w fun e w' => e = .returned (.bool true) ∧ w = w' := by
  go_enter Try.func43, Try.ntmps43
  go_wp2_with fail
  go_ret
  exact ⟨rfl, rfl⟩
set_option maxHeartbeats 400000 in
theorem in_no (v a b : Int) (h : ¬ (a ≤ v ∧ v ≤ b)) (w : World) : Calls Try.prog 43 #[.int .i64 v, .int .i64 a, .int .i64 b] w fun e w' => e = .returned (.bool false) ∧ w = w' := by
  by_cases h0 : a ≤ v
  · have h1 : ¬ v ≤ b := fun h1 => h ⟨h0, h1⟩
    clear h
    go_enter Try.func43, Try.ntmps43
    go_wp2_with fail
    go_ret
    exact ⟨rfl, rfl⟩
  · clear h
    go_enter Try.func43, Try.ntmps43
    go_wp2_with fail
    go_ret
    exact ⟨rfl, rfl⟩

set_option maxHeartbeats 400000 in
theorem geo_may_yes {i b j : Int} (h : Mays i b j) (w : World) : Calls Try.prog 12 #[.agg #[.int .i64 i, .int .i64 b, .int .i64 j]] w fun e w' => e = .returned (.bool true) ∧ Below w.heap.size w w' := by
  go_enter Try.func12, Try.ntmps12
  go_wp2_with fail
  refine (in_yes _ _ _ h.i0 h.i1 _).mono ?_
  rintro e w1 ⟨rfl, rfl⟩
  go_wp2_with fail
  refine (in_yes _ _ _ h.b0 h.b1 _).mono ?_
  rintro e w1 ⟨rfl, rfl⟩
  go_wp2_with fail
  refine (in_yes _ _ _ h.j0 h.j1 _).mono ?_
  rintro e w1 ⟨rfl, rfl⟩
  go_wp2_with fail
  go_ret
  exact ⟨rfl, (Below.refl _ _).alloc (Nat.le_refl _) _⟩

set_option maxHeartbeats 400000 in
theorem geo_may_no {i b j : Int} (h : ¬ Mays i b j) (w : World) : Calls Try.prog 12 #[.agg #[.int .i64 i, .int .i64 b, .int .i64 j]] w fun e w' => e = .returned (.bool false) ∧ Below w.heap.size w w' := by
  rw [mays_iff] at h
  by_cases hi : 2 ≤ i ∧ i ≤ 256
  · by_cases hb : 8 ≤ b ∧ b ≤ 1024
    · have hj : ¬ (40 ≤ j ∧ j ≤ 256) := fun hj => h ⟨hi, hb, hj⟩
      clear h
      go_enter Try.func12, Try.ntmps12
      go_wp2_with fail
      refine (in_yes _ _ _ hi.1 hi.2 _).mono ?_
      rintro e w1 ⟨rfl, rfl⟩
      go_wp2_with fail
      refine (in_yes _ _ _ hb.1 hb.2 _).mono ?_
      rintro e w1 ⟨rfl, rfl⟩
      go_wp2_with fail
      refine (in_no _ _ _ hj _).mono ?_
      rintro e w1 ⟨rfl, rfl⟩
      go_wp2_with fail
      go_ret
      exact ⟨rfl, (Below.refl _ _).alloc (Nat.le_refl _) _⟩
    · clear h
      go_enter Try.func12, Try.ntmps12
      go_wp2_with fail
      refine (in_yes _ _ _ hi.1 hi.2 _).mono ?_
      rintro e w1 ⟨rfl, rfl⟩
      go_wp2_with fail
      refine (in_no _ _ _ hb _).mono ?_
      rintro e w1 ⟨rfl, rfl⟩
      go_wp2_with fail
      go_ret
      exact ⟨rfl, (Below.refl _ _).alloc (Nat.le_refl _) _⟩
  · clear h
    go_enter Try.func12, Try.ntmps12
    go_wp2_with fail
    refine (in_no _ _ _ hi _).mono ?_
    rintro e w1 ⟨rfl, rfl⟩
    go_wp2_with fail
    go_ret
    exact ⟨rfl, (Below.refl _ _).alloc (Nat.le_refl _) _⟩

set_option maxHeartbeats 400000 in
theorem up_any (n by_ : Int) (h0 : 0 ≤ n) (h1 : n ≤ 100000) (h2 : 1 ≤ by_) (h3 : by_ ≤ 100000) (w : World) : Calls Try.prog 57 #[.int .i64 n, .int .i64 by_] w fun e w' => e = .returned (.int .i64 ((n + by_ - 1) / by_)) ∧ w = w' := by
  go_enter Try.func57, Try.ntmps57
  go_wp2_with fail
  go_ret
  exact ⟨rfl, rfl⟩

/-- The parts' sizes. -/
def szv (i b j : Int) : Value := .agg #[.int .i64 1, .int .i64 j, .int .i64 ((i + 512) / 512), .int .i64 ((b + 512) / 512), .int .i64 ((i + 1) / 2), .int .i64 b]

set_option maxHeartbeats 1000000 in
theorem sizes_any {i b j : Int} (h : Mays i b j) (w : World) : Calls Try.prog 46 #[.agg #[.int .i64 i, .int .i64 b, .int .i64 j]] w fun e w' => e = .returned (szv i b j) ∧ Below w.heap.size w w' := by
  obtain ⟨i0, i1, b0, b1, j0, j1⟩ := h
  have e1 : IntKind.i64.wrap (i + 1) = i + 1 := IntWalk.i64_in _ (by omega)
  have e2 : IntKind.i64.wrap (b + 1) = b + 1 := IntWalk.i64_in _ (by omega)
  go_enter Try.func46, Try.ntmps46
  go_wp2_with fail
  go_region_held3 (fun W => W.cell? ⟨w.heap.size, 0, none⟩ = some (.int .i64 i) ∧ W.cell? ⟨w.heap.size, 1, none⟩ = some (.int .i64 b) ∧ W.cell? ⟨w.heap.size, 2, none⟩ = some (.int .i64 j)) (go_keep) (first | (go_at_call 57; refine (up_any _ _ (by omega) (by omega) (by omega) (by omega) _).mono ?_; rintro e w1 ⟨rfl, rfl⟩))
  rename_i hK _
  refine hK _ _ ?_
  rw [show i + 1 + 512 - 1 = i + 512 by omega, show b + 1 + 512 - 1 = b + 512 by omega, show i + 2 - 1 = i + 1 by omega]
  go_wp2_with fail
  exact bodyPost_ret (v := szv i b j) (by simp [results, szv, Try.results46, go_sem]) rfl ⟨rfl, (((Below.refl _ _).alloc (Nat.le_refl _) _).alloc (by simp) _).drew⟩
end Go.Proofs.Ytcdmipgopffaaaa
