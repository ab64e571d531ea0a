/- package geo: the walks through May, up, sizes. package geo: the walks through Part, Sectors, Inode, Block, Where. -/
import Derived.Test.YtjjphcnoegaimaaGreatProg
import Derived.Test.YtjjphcnoegaimaaGreatGA
import Derived.Deep.RegionHeld3
import Derived.Deep.QuietTactic
import Derived.BigQuiet
import Derived.StillTailTactics
namespace Go.Proofs.YtjjphcnoegaimaaGreat
open Go.RowKit
set_option maxRecDepth 20000

/-- A geometry that may be. -/
structure Mays (i b j : Int) : Prop where
  i0 : 2 ≤ i
  i1 : i ≤ 256
  b0 : 8 ≤ b
  b1 : b ≤ 1024
  j0 : 40 ≤ j
  j1 : j ≤ 256
theorem mays_iff {i b j : Int} : Mays i b j ↔ (2 ≤ i ∧ i ≤ 256) ∧ (8 ≤ b ∧ b ≤ 1024) ∧ (40 ≤ j ∧ j ≤ 256) :=
  ⟨fun h => ⟨⟨h.i0, h.i1⟩, ⟨h.b0, h.b1⟩, ⟨h.j0, h.j1⟩⟩, fun h => ⟨h.1.1, h.1.2, h.2.1.1, h.2.1.2, h.2.2.1, h.2.2.2⟩⟩
instance (i b j : Int) : Decidable (Mays i b j) := decidable_of_iff _ mays_iff.symm

/-- A geometry as a value. -/
def gv (i b j : Int) : Value := .agg #[.int .i64 i, .int .i64 b, .int .i64 j]

set_option maxHeartbeats 400000 in
theorem in_yes (v a b : Int) (h0 : a ≤ v) (h1 : v ≤ b) (w : World) : Calls Tryz.prog 53 #[.int .i64 v, .int .i64 a, .int .i64 b] w fun e w' => e = .returned (.bool true) ∧ w = w' := by
  go_enter Tryz.func53, Tryz.ntmps53
  go_wp2_with fail
  go_ret
  exact ⟨rfl, rfl⟩
set_option maxHeartbeats 400000 in
theorem in_no (v a b : Int) (h : ¬ (a ≤ v ∧ v ≤ b)) (w : World) : Calls Tryz.prog 53 #[.int .i64 v, .int .i64 a, .int .i64 b] w fun e w' => e = .returned (.bool false) ∧ w = w' := by
  by_cases h0 : a ≤ v
  · have h1 : ¬ v ≤ b := fun h1 => h ⟨h0, h1⟩
    clear h
    go_enter Tryz.func53, Tryz.ntmps53
    go_wp2_with fail
    go_ret
    exact ⟨rfl, rfl⟩
  · clear h
    go_enter Tryz.func53, Tryz.ntmps53
    go_wp2_with fail
    go_ret
    exact ⟨rfl, rfl⟩

set_option maxHeartbeats 400000 in
theorem geo_may_yes {i b j : Int} (h : Mays i b j) (w : World) : Calls Tryz.prog 24 #[.agg #[.int .i64 i, .int .i64 b, .int .i64 j]] w fun e w' => e = .returned (.bool true) ∧ Below w.heap.size w w' := by
  go_enter Tryz.func24, Tryz.ntmps24
  go_wp2_with fail
  refine (in_yes _ _ _ h.i0 h.i1 _).mono ?_
  rintro e w1 ⟨rfl, rfl⟩
  go_wp2_with fail
  refine (in_yes _ _ _ h.b0 h.b1 _).mono ?_
  rintro e w1 ⟨rfl, rfl⟩
  go_wp2_with fail
  refine (in_yes _ _ _ h.j0 h.j1 _).mono ?_
  rintro e w1 ⟨rfl, rfl⟩
  go_wp2_with fail
  go_ret
  exact ⟨rfl, (Below.refl _ _).alloc (Nat.le_refl _) _⟩

set_option maxHeartbeats 400000 in
theorem geo_may_no {i b j : Int} (h : ¬ Mays i b j) (w : World) : Calls Tryz.prog 24 #[.agg #[.int .i64 i, .int .i64 b, .int .i64 j]] w fun e w' => e = .returned (.bool false) ∧ Below w.heap.size w w' := by
  rw [mays_iff] at h
  by_cases hi : 2 ≤ i ∧ i ≤ 256
  · by_cases hb : 8 ≤ b ∧ b ≤ 1024
    · have hj : ¬ (40 ≤ j ∧ j ≤ 256) := fun hj => h ⟨hi, hb, hj⟩
      clear h
      go_enter Tryz.func24, Tryz.ntmps24
      go_wp2_with fail
      refine (in_yes _ _ _ hi.1 hi.2 _).mono ?_
      rintro e w1 ⟨rfl, rfl⟩
      go_wp2_with fail
      refine (in_yes _ _ _ hb.1 hb.2 _).mono ?_
      rintro e w1 ⟨rfl, rfl⟩
      go_wp2_with fail
      refine (in_no _ _ _ hj _).mono ?_
      rintro e w1 ⟨rfl, rfl⟩
      go_wp2_with fail
      go_ret
      exact ⟨rfl, (Below.refl _ _).alloc (Nat.le_refl _) _⟩
    · clear h
      go_enter Tryz.func24, Tryz.ntmps24
      go_wp2_with fail
      refine (in_yes _ _ _ hi.1 hi.2 _).mono ?_
      rintro e w1 ⟨rfl, rfl⟩
      go_wp2_with fail
      refine (in_no _ _ _ hb _).mono ?_
      rintro e w1 ⟨rfl, rfl⟩
      go_wp2_with fail
      go_ret
      exact ⟨rfl, (Below.refl _ _).alloc (Nat.le_refl _) _⟩
  · clear h
    go_enter Tryz.func24, Tryz.ntmps24
    go_wp2_with fail
    refine (in_no _ _ _ hi _).mono ?_
    rintro e w1 ⟨rfl, rfl⟩
    go_wp2_with fail
    go_ret
    exact ⟨rfl, (Below.refl _ _).alloc (Nat.le_refl _) _⟩

set_option maxHeartbeats 400000 in
theorem up_any (n by_ : Int) (h0 : 0 ≤ n) (h1 : n ≤ 100000) (h2 : 1 ≤ by_) (h3 : by_ ≤ 100000) (w : World) : Calls Tryz.prog 91 #[.int .i64 n, .int .i64 by_] w fun e w' => e = .returned (.int .i64 ((n + by_ - 1) / by_)) ∧ w = w' := by
  go_enter Tryz.func91, Tryz.ntmps91
  go_wp2_with fail
  go_ret
  exact ⟨rfl, rfl⟩

/-- The parts' sizes. -/
def szv (i b j : Int) : Value := .agg #[.int .i64 1, .int .i64 j, .int .i64 ((i + 512) / 512), .int .i64 ((b + 512) / 512), .int .i64 ((i + 1) / 2), .int .i64 b]

set_option maxHeartbeats 1000000 in
theorem sizes_any {i b j : Int} (h : Mays i b j) (w : World) : Calls Tryz.prog 61 #[.agg #[.int .i64 i, .int .i64 b, .int .i64 j]] w fun e w' => e = .returned (szv i b j) ∧ Below w.heap.size w w' := by
  obtain ⟨i0, i1, b0, b1, j0, j1⟩ := h
  have e1 : IntKind.i64.wrap (i + 1) = i + 1 := IntWalk.i64_in _ (by omega)
  have e2 : IntKind.i64.wrap (b + 1) = b + 1 := IntWalk.i64_in _ (by omega)
  go_enter Tryz.func61, Tryz.ntmps61
  go_wp2_with fail
  go_region_held3 (fun W => W.cell? ⟨w.heap.size, 0, none⟩ = some (.int .i64 i) ∧ W.cell? ⟨w.heap.size, 1, none⟩ = some (.int .i64 b) ∧ W.cell? ⟨w.heap.size, 2, none⟩ = some (.int .i64 j)) (go_keep) (first | (go_at_call 91; refine (up_any _ _ (by omega) (by omega) (by omega) (by omega) _).mono ?_; rintro e w1 ⟨rfl, rfl⟩))
  rename_i hK _
  refine hK _ _ ?_
  rw [show i + 1 + 512 - 1 = i + 512 by omega, show b + 1 + 512 - 1 = b + 512 by omega, show i + 2 - 1 = i + 1 by omega]
  go_wp2_with fail
  exact bodyPost_ret (v := szv i b j) (by simp [results, szv, Tryz.results61, go_sem]) rfl ⟨rfl, (((Below.refl _ _).alloc (Nat.le_refl _) _).alloc (by simp) _).drew⟩
end Go.Proofs.YtjjphcnoegaimaaGreat

namespace Go.Proofs.YtjjphcnoegaimaaGreat
open Go.RowKit
set_option maxRecDepth 20000

def szl (i b j : Int) : List Int := [1, j, (i + 512) / 512, (b + 512) / 512, (i + 1) / 2, b]
/-- How many sectors a part has. -/
def sz (i b j : Int) (k : Nat) : Int := (szl i b j).getD k 0
/-- Where it begins. -/
def fr (i b j : Int) (k : Nat) : Int := ((szl i b j).take k).sum
theorem fr_bd {i b j : Int} (h : Mays i b j) {k : Nat} (hk : k ≤ 6) : 0 ≤ fr i b j k ∧ fr i b j k ≤ 2000 := by
  obtain ⟨i0, i1, b0, b1, j0, j1⟩ := h
  rcases (by omega : k = 0 ∨ k = 1 ∨ k = 2 ∨ k = 3 ∨ k = 4 ∨ k = 5 ∨ k = 6) with rfl | rfl | rfl | rfl | rfl | rfl | rfl <;> simp [fr, szl] <;> omega
theorem sz_bd {i b j : Int} (h : Mays i b j) {k : Nat} (hk : k < 6) : 1 ≤ sz i b j k ∧ sz i b j k ≤ 2000 := by
  obtain ⟨i0, i1, b0, b1, j0, j1⟩ := h
  rcases (by omega : k = 0 ∨ k = 1 ∨ k = 2 ∨ k = 3 ∨ k = 4 ∨ k = 5) with rfl | rfl | rfl | rfl | rfl | rfl <;> simp [sz, szl] <;> omega
theorem fr_succ (i b j : Int) {k : Nat} (hk : k < 6) : fr i b j (k + 1) = fr i b j k + sz i b j k := by
  rcases (by omega : k = 0 ∨ k = 1 ∨ k = 2 ∨ k = 3 ∨ k = 4 ∨ k = 5) with rfl | rfl | rfl | rfl | rfl | rfl <;> simp [fr, sz, szl] <;> omega
def szc (i b j : Int) : Array Value := #[.int .i64 1, .int .i64 j, .int .i64 ((i + 512) / 512), .int .i64 ((b + 512) / 512), .int .i64 ((i + 1) / 2), .int .i64 b]
theorem szc_get (i b j : Int) {k : Nat} (hk : k < 6) : (szc i b j)[k]? = some (.int .i64 (sz i b j k)) := by
  rcases (by omega : k = 0 ∨ k = 1 ∨ k = 2 ∨ k = 3 ∨ k = 4 ∨ k = 5) with rfl | rfl | rfl | rfl | rfl | rfl <;> rfl


def zspan : Value := .agg #[.int .i64 0, .int .i64 0]

set_option maxHeartbeats 1000000 in
theorem part_no {i b j part : Int} (h : ¬ (Mays i b j ∧ 0 ≤ part ∧ part < 6)) (w : World) : Calls Tryz.prog 60 #[.agg #[.int .i64 i, .int .i64 b, .int .i64 j], .int .i64 part] w fun e w' => e = .returned (.tuple #[.agg #[.int .i64 0, .int .i64 0], .int .i64 2]) ∧ Below w.heap.size w w' := by
  have B0 := ((Below.refl w.heap.size w).alloc (Nat.le_refl _) (.cells #[.int .i64 i, .int .i64 b, .int .i64 j] 56)).alloc (by simp) (.cells #[.int .i64 0, .int .i64 0] 134)
  have c0 : ((w.alloc (.cells #[.int .i64 i, .int .i64 b, .int .i64 j] 56)).alloc (.cells #[.int .i64 0, .int .i64 0] 134)).heap[w.heap.size + 1]? = some (.cells #[.int .i64 0, .int .i64 0] 134 (0, 0)) := hp_new _ _ (by simp)
  by_cases hm : Mays i b j
  · go_enter Tryz.func60, Tryz.ntmps60
    go_wp2_with fail
    refine (geo_may_yes hm _).mono ?_
    rintro e w1 ⟨rfl, hB⟩
    have hS := bblk hB c0
    have s0 := cl_of hS 0
    have s1 := cl_of hS 1
    have z0 := fz_of hS 0
    have z1 := fz_of hS 1
    by_cases h0 : part < 0
    · go_wp2_with fail
      refine bodyPost_ret (v := .tuple #[.agg #[.int .i64 0, .int .i64 0], .int .i64 2]) (by simp [results, Tryz.results60, go_sem, s0, s1]) rfl ⟨rfl, ((bt B0 hB).setCell (by simp) _).setCell (by simp) _⟩
    · have h6 : 6 ≤ part := by rcases Int.lt_or_le part 6 with h6 | h6; exact absurd ⟨hm, by omega, h6⟩ h; exact h6
      go_wp2_with fail
      refine bodyPost_ret (v := .tuple #[.agg #[.int .i64 0, .int .i64 0], .int .i64 2]) (by simp [results, Tryz.results60, go_sem, s0, s1]) rfl ⟨rfl, ((bt B0 hB).setCell (by simp) _).setCell (by simp) _⟩
  · go_enter Tryz.func60, Tryz.ntmps60
    go_wp2_with fail
    refine (geo_may_no hm _).mono ?_
    rintro e w1 ⟨rfl, hB⟩
    have hS := bblk hB c0
    have s0 := cl_of hS 0
    have s1 := cl_of hS 1
    have z0 := fz_of hS 0
    have z1 := fz_of hS 1
    go_wp2_with fail
    refine bodyPost_ret (v := .tuple #[.agg #[.int .i64 0, .int .i64 0], .int .i64 2]) (by simp [results, Tryz.results60, go_sem, s0, s1]) rfl ⟨rfl, ((bt B0 hB).setCell (by simp) _).setCell (by simp) _⟩

set_option maxHeartbeats 2000000 in
theorem part_yes {i b j : Int} (h : Mays i b j) (p : Nat) (hp : p < 6) (w : World) : Calls Tryz.prog 60 #[.agg #[.int .i64 i, .int .i64 b, .int .i64 j], .int .i64 p] w fun e w' => e = .returned (.tuple #[.agg #[.int .i64 (fr i b j p), .int .i64 (sz i b j p)], .int .i64 0]) ∧ Below w.heap.size w w' := by
  have B0 := ((Below.refl w.heap.size w).alloc (Nat.le_refl _) (.cells #[.int .i64 i, .int .i64 b, .int .i64 j] 56)).alloc (by simp) (.cells #[.int .i64 0, .int .i64 0] 134)
  have c0 : ((w.alloc (.cells #[.int .i64 i, .int .i64 b, .int .i64 j] 56)).alloc (.cells #[.int .i64 0, .int .i64 0] 134)).heap[w.heap.size + 1]? = some (.cells #[.int .i64 0, .int .i64 0] 134 (0, 0)) := hp_new _ _ (by simp)
  have d0 : ((w.alloc (.cells #[.int .i64 i, .int .i64 b, .int .i64 j] 56)).alloc (.cells #[.int .i64 0, .int .i64 0] 134)).heap[w.heap.size]? = some (.cells #[.int .i64 i, .int .i64 b, .int .i64 j] 56 (0, 0)) := (hp_old _ _ (by simp)).trans (hp_new _ _ rfl)
  go_enter Tryz.func60, Tryz.ntmps60
  go_wp2_with fail
  refine (geo_may_yes h _).mono ?_
  rintro e w1 ⟨rfl, hB⟩
  have hG := bblk hB d0
  have hS := bblk hB c0
  have g0 := cl_of hG 0
  have g1 := cl_of hG 1
  have g2 := cl_of hG 2
  have B1 := bt B0 hB
  clear hB d0 c0 B0
  go_wp2_with fail
  refine (sizes_any h _).mono ?_
  rintro e w2 ⟨rfl, hB2⟩
  have hS2 := bblk hB2 hS
  have B2 := bt B1 hB2
  have l2 := blk_lt hS2
  clear hB2 hS B1 g0 g1 g2 hG
  unfold szv
  go_wp2_with fail
  go_loopw [23] (fun v wr => ∃ k : Nat, ∃ F : Int, k ≤ p ∧ v = .int .i64 k ∧ Hid (F = fr i b j k) ∧ 0 ≤ F ∧ F ≤ 2000 ∧ wr.heap[w.heap.size + 1]? = some (.cells #[.int .i64 F, .int .i64 0] 134 (0, 0)) ∧ wr.heap[w2.heap.size]? = some (.cells (szc i b j) 138 (0, 0)) ∧ Below w.heap.size w wr) (fun v _ => p - (intOf v).toNat)
  case atStart => exact ⟨0, 0, by omega, rfl, Lib.hid rfl, by omega, by omega, blk_old hS2 _, hp_new _ _ rfl, bal B2 _⟩
  case round =>
    obtain ⟨k, F, hk, rfl, HF, f0, f1, hS3, hl, hB3⟩ := hrel
    clear hS2 B2
    have q0 := cl_of hS3 0
    have q1 := cl_of hS3 1
    have q2 := fz_of hS3 0
    have q3 := fz_of hS3 1
    have hk6 : k < 6 := by omega
    have hq := (cl_of hl k).trans (szc_get i b j hk6)
    have hsb := sz_bd h hk6
    have HS := Lib.hid (fr_succ i b j hk6)
    generalize hz : sz i b j k = Z at *
    have HZ := Lib.hid hz
    clear hz
    by_cases hlt : k < p
    · have i0 : (0 : Int) ≤ (k : Int) := by omega
      have i6 : (k : Int) < 6 := by omega
      have ew : IntKind.i64.wrap (F + Z) = F + Z := IntWalk.i64_in _ (by omega)
      go_wp2_with fail
      go_region
      go_wp2_with fail
      go_roundw
      case rel => exact ⟨k + 1, F + Z, by omega, by go_num, Lib.hid (by rw [HS.out, HF.out]), by omega, by have := fr_bd h (k := k + 1) (by omega); rw [HS.out, ← HF.out] at this; omega, blk_here hS3 0 _, blk_set hl (by show w2.heap.size ≠ w.heap.size + 1; omega) _, (hB3.setCell (p := ⟨w.heap.size + 1, 0, none⟩) (by simp) _).drew⟩
      case measure => simp [intOf]; omega
    · obtain rfl : k = p := by omega
      clear hlt
      go_wp2_with fail
      refine bodyPost_ret (v := .tuple #[.agg #[.int .i64 F, .int .i64 Z], .int .i64 0]) (by simp [results, Tryz.results60, go_sem, q0, q1]) rfl ⟨by rw [HF.out, HZ.out], ((hB3.setCell (by simp) _).setCell (by simp) _).setCell (by simp) _⟩

theorem fr_mono {i b j : Int} (h : Mays i b j) {k p : Nat} (hkp : k ≤ p) (hp : p ≤ 6) : fr i b j k ≤ fr i b j p := by
  induction p with
  | zero => obtain rfl : k = 0 := by omega
            exact Int.le_refl _
  | succ p ih =>
    by_cases e : k = p + 1
    · subst e; exact Int.le_refl _
    · have := ih (by omega) (by omega)
      have h1 := sz_bd h (k := p) (by omega)
      rw [fr_succ i b j (by omega)]
      omega
theorem szv_at (i b j : Int) {k : Nat} (hk : k < 6) (w : World) : (Instr.index 138 (.agg #[.int .i64 1, .int .i64 j, .int .i64 ((i + 512) / 512), .int .i64 ((b + 512) / 512), .int .i64 ((i + 1) / 2), .int .i64 b]) (.int .i64 k)).run Tryz.prog w = .ok (.int .i64 (sz i b j k)) w := by
  rcases (by omega : k = 0 ∨ k = 1 ∨ k = 2 ∨ k = 3 ∨ k = 4 ∨ k = 5) with rfl | rfl | rfl | rfl | rfl | rfl <;> kernel_rfl

set_option maxHeartbeats 1000000 in
theorem sectors_no {i b j : Int} (h : ¬ Mays i b j) (w : World) : Calls Tryz.prog 34 #[.agg #[.int .i64 i, .int .i64 b, .int .i64 j]] w fun e w' => e = .returned (.int .i64 0) ∧ Below w.heap.size w w' := by
  go_enter Tryz.func34, Tryz.ntmps34
  go_wp2_with fail
  refine (geo_may_no h _).mono ?_
  rintro e w1 ⟨rfl, hB⟩
  go_wp2_with fail
  go_ret
  exact ⟨rfl, bt (bnew _ _) hB⟩

set_option maxHeartbeats 1000000 in
theorem sectors_yes {i b j : Int} (h : Mays i b j) (w : World) : Calls Tryz.prog 34 #[.agg #[.int .i64 i, .int .i64 b, .int .i64 j]] w fun e w' => e = .returned (.int .i64 (fr i b j 6)) ∧ Below w.heap.size w w' := by
  have d0 := hp_new w (.cells #[.int .i64 i, .int .i64 b, .int .i64 j] 56) rfl
  go_enter Tryz.func34, Tryz.ntmps34
  go_wp2_with fail
  refine (geo_may_yes h _).mono ?_
  rintro e w1 ⟨rfl, hB⟩
  have hG := bblk hB d0
  have g0 := cl_of hG 0
  have g1 := cl_of hG 1
  have g2 := cl_of hG 2
  have B1 := bt (bnew w (.cells #[.int .i64 i, .int .i64 b, .int .i64 j] 56)) hB
  clear hB d0
  go_wp2_with fail
  refine (sizes_any h _).mono ?_
  rintro e w2 ⟨rfl, hB2⟩
  have B2 := bt B1 hB2
  clear hB2 B1 g0 g1 g2 hG
  unfold szv
  go_wp2_with fail
  go_loop [2, 10] (fun n v => ∃ k : Nat, ∃ F : Int, k ≤ 6 ∧ v = .int .i64 k ∧ Hid (F = fr i b j k) ∧ 0 ≤ F ∧ F ≤ 2000 ∧ n = .int .i64 F) (fun _ v => 6 - (intOf v).toNat)
  case atStart => exact ⟨0, 0, by omega, rfl, Lib.hid rfl, by omega, by omega, rfl⟩
  case round =>
    obtain ⟨k, F, hk, rfl, HF, f0, f1, rfl⟩ := hrel
    by_cases hlt : k < 6
    · have hq := szv_at i b j hlt w2
      have hsb := sz_bd h hlt
      have HS := Lib.hid (fr_succ i b j hlt)
      generalize hz : sz i b j k = Z at *
      clear hz
      go_wp2_with fail
      go_round
      case rel => exact ⟨k + 1, F + Z, by omega, by go_num, Lib.hid (by rw [HS.out, HF.out]), by omega, by have := fr_bd h (k := k + 1) (by omega); rw [HS.out, ← HF.out] at this; omega, rfl⟩
      case measure => simp [intOf]; omega
    · obtain rfl : k = 6 := by omega
      go_wp2_with fail
      go_ret
      exact ⟨by rw [HF.out]; rfl, B2⟩

set_option maxHeartbeats 1000000 in
theorem block_no {i b j n : Int} (h : ¬ (Mays i b j ∧ 1 ≤ n ∧ n ≤ b)) (n0 : 0 ≤ n) (n1 : n < 65536) (w : World) : Calls Tryz.prog 67 #[.agg #[.int .i64 i, .int .i64 b, .int .i64 j], .int .u16 n] w fun e w' => e = .returned (.tuple #[.int .i64 0, .int .i64 2]) ∧ Below w.heap.size w w' := by
  by_cases hm : Mays i b j
  · have hn : n < 1 ∨ b < n := by rcases Int.lt_or_le n 1 with h6 | h6; exact .inl h6; rcases Int.lt_or_le b n with h7 | h7; exact .inr h7; exact absurd ⟨hm, h6, h7⟩ h
    have d0 := hp_new w (.cells #[.int .i64 i, .int .i64 b, .int .i64 j] 56) rfl
    clear h
    go_enter Tryz.func67, Tryz.ntmps67
    go_wp2_with fail
    refine (part_yes hm 5 (by decide) _).mono ?_
    rintro e w1 ⟨rfl, hB⟩
    have hG := bblk hB d0
    have g1 := cl_of hG 1
    have hlt := blk_lt hG
    have B1 := bt (bnew w (.cells #[.int .i64 i, .int .i64 b, .int .i64 j] 56)) hB
    by_cases n2 : n < 1
    · go_wp2_with fail
      go_ret2
      exact ⟨rfl, bal B1 _⟩
    · have n3 : b < n := by omega
      go_wp2_with fail
      go_ret2
      exact ⟨rfl, bal B1 _⟩
  · clear h
    go_enter Tryz.func67, Tryz.ntmps67
    go_wp2_with fail
    refine (part_no (part := 5) (fun h => hm h.1) _).mono ?_
    rintro e w1 ⟨rfl, hB⟩
    go_wp2_with fail
    go_ret2
    exact ⟨rfl, bal (bt (bnew _ _) hB) _⟩

set_option maxHeartbeats 1000000 in
theorem block_yes {i b j n : Int} (hm : Mays i b j) (n0 : 1 ≤ n) (n1 : n ≤ b) (w : World) : Calls Tryz.prog 67 #[.agg #[.int .i64 i, .int .i64 b, .int .i64 j], .int .u16 n] w fun e w' => e = .returned (.tuple #[.int .i64 (fr i b j 5 + n - 1), .int .i64 0]) ∧ Below w.heap.size w w' := by
  have d0 := hp_new w (.cells #[.int .i64 i, .int .i64 b, .int .i64 j] 56) rfl
  have ib := hm.b1
  go_enter Tryz.func67, Tryz.ntmps67
  go_wp2_with fail
  refine (part_yes hm 5 (by decide) _).mono ?_
  rintro e w1 ⟨rfl, hB⟩
  have hG := bblk hB d0
  have g1 := cl_of hG 1
  have hlt := blk_lt hG
  have B1 := bt (bnew w (.cells #[.int .i64 i, .int .i64 b, .int .i64 j] 56)) hB
  have hfb := fr_bd hm (k := 5) (by decide)
  generalize hF : fr i b j 5 = F at *
  generalize sz i b j 5 = Z at *
  have HF := Lib.hid hF
  clear hF
  go_wp2_with fail
  go_ret2
  exact ⟨by rw [HF.out]; rfl, bal B1 _⟩
end Go.Proofs.YtjjphcnoegaimaaGreat
