/- Package lunetteref08: a transaction: at, Write. Sectors' texts behind a transaction; lunetteref08's Commit. -/
import Derived.Test.YtjjphcnoegaimaaGreatGO
import Derived.Laws.AppendOwnNone
import Derived.Test.YtjjphcnoegaimaaGreatGP
namespace Go.Proofs.YtjjphcnoegaimaaGreat
open Go.RowKit Go.Shelf Go.Maps
set_option maxRecDepth 20000
set_option linter.unusedVariables false

/-- How many lie ahead of a sector. -/
def lessN (n : Int) : Wl → Nat
  | [] => 0
  | x :: M => if x.1 < n then lessN n M + 1 else 0
theorem lessN_le (n : Int) : ∀ M : Wl, lessN n M ≤ M.length
  | [] => Nat.le_refl _
  | x :: M => by
    unfold lessN
    split
    · have := lessN_le n M; simp only [List.length_cons]; omega
    · exact Nat.zero_le _
theorem lessN_at (n : Int) : ∀ (M : Wl) (i : Nat) (h : i < M.length), i < lessN n M → M[i].1 < n
  | [], i, h, _ => by cases h
  | x :: M, i, h, hi => by
    unfold lessN at hi
    split at hi
    · cases i with
      | zero => assumption
      | succ i => exact lessN_at n M i (by simpa using h) (by omega)
    · omega
theorem lessN_end (n : Int) : ∀ (M : Wl) (h : lessN n M < M.length), ¬ (M[lessN n M]'h).1 < n
  | [], h => by cases h
  | x :: M, h => by
    by_cases e : x.1 < n
    · have e1 : lessN n (x :: M) = lessN n M + 1 := by rw [lessN, if_pos e]
      have h' : lessN n M < M.length := by rw [e1] at h; simpa using h
      have := lessN_end n M h'
      simp only [e1, List.getElem_cons_succ]
      exact this
    · have e1 : lessN n (x :: M) = 0 := by rw [lessN, if_neg e]
      simp only [e1, List.getElem_cons_zero]
      exact e
theorem lessN_has (n : Int) : ∀ {M : Wl}, Rising M → (h : lessN n M < M.length) → ((M[lessN n M]'h).1 = n ↔ (pget n M).isSome = true)
  | [], _, h => by cases h
  | x :: M, hr, h => by
    obtain ⟨a, c⟩ := x
    by_cases e : a < n
    · have e1 : lessN n ((a, c) :: M) = lessN n M + 1 := by rw [lessN, if_pos e]
      have h' : lessN n M < M.length := by rw [e1] at h; simpa using h
      have := lessN_has n hr.tail h'
      simp only [e1, List.getElem_cons_succ]
      rw [this, pget, if_neg (by omega)]
    · have e1 : lessN n ((a, c) :: M) = 0 := by rw [lessN, if_neg e]
      simp only [e1, List.getElem_cons_zero]
      rw [pget]
      by_cases e2 : n = a
      · rw [if_pos e2]; simp [e2]
      · rw [if_neg e2]
        have hk : pget n M = none := pget_none.2 (fun hm => by
          obtain ⟨y, hy, e3⟩ := List.mem_map.1 hm
          have := (List.pairwise_cons.1 hr).1 y hy
          dsimp only at this
          omega)
        rw [hk]
        simp
        omega
theorem lessN_all (n : Int) : ∀ {M : Wl}, Rising M → lessN n M = M.length → pget n M = none
  | [], _, _ => rfl
  | x :: M, hr, h => by
    obtain ⟨a, c⟩ := x
    by_cases e : a < n
    · have e1 : lessN n ((a, c) :: M) = lessN n M + 1 := by rw [lessN, if_pos e]
      rw [e1] at h
      rw [pget, if_neg (by omega)]
      exact lessN_all n hr.tail (by simpa using h)
    · have e1 : lessN n ((a, c) :: M) = 0 := by rw [lessN, if_neg e]
      rw [e1] at h
      simp at h
theorem pins_split (n : Int) (b : ByteArray) : ∀ {M : Wl}, Rising M → pins n b M = M.take (lessN n M) ++ (n, b) :: M.drop (lessN n M + (if (pget n M).isSome then 1 else 0))
  | [], _ => by simp [pins, lessN, pget]
  | x :: M, hr => by
    obtain ⟨a, c⟩ := x
    by_cases e : a < n
    · have e1 : lessN n ((a, c) :: M) = lessN n M + 1 := by rw [lessN, if_pos e]
      have e2 : pget n ((a, c) :: M) = pget n M := by rw [pget, if_neg (by omega)]
      rw [pins, if_pos e, pins_split n b hr.tail, e1, e2, List.take_succ_cons]
      rw [show lessN n M + 1 + (if (pget n M).isSome then 1 else 0) = (lessN n M + (if (pget n M).isSome then 1 else 0)) + 1 by omega, List.drop_succ_cons]
      rfl
    · have e1 : lessN n ((a, c) :: M) = 0 := by rw [lessN, if_neg e]
      rw [pins, if_neg e, e1]
      by_cases e2 : a = n
      · have e3 : pget n ((a, c) :: M) = some c := by rw [pget, if_pos e2.symm]
        rw [if_pos e2, e3]
        rfl
      · have e3 : pget n ((a, c) :: M) = none := by
          rw [pget, if_neg (fun h => e2 h.symm)]
          exact pget_none.2 (fun hm => by
            obtain ⟨y, hy, e3⟩ := List.mem_map.1 hm
            have := (List.pairwise_cons.1 hr).1 y hy
            dsimp only at this
            omega)
        rw [if_neg e2, e3]
        rfl
theorem wcells_append (A B : Wl) : wcells (A ++ B) = wcells A ++ wcells B := by simp [wcells]
theorem wcells_length (M : Wl) : (wcells M).length = M.length * 2 := by
  induction M with
  | nil => rfl
  | cons x M ih =>
    have : wcells (x :: M) = .int .i64 x.1 :: .string x.2 :: wcells M := rfl
    rw [this, List.length_cons, List.length_cons, ih, List.length_cons]
    omega
theorem wcells_take (M : Wl) : ∀ k, wcells (M.take k) = (wcells M).take (k * 2) := by
  induction M with
  | nil => intro k; simp [wcells]
  | cons x M ih =>
    intro k
    have e : wcells (x :: M) = .int .i64 x.1 :: .string x.2 :: wcells M := rfl
    cases k with
    | zero => simp [wcells]
    | succ k =>
      rw [List.take_succ_cons, e, show (k + 1) * 2 = k * 2 + 1 + 1 by omega, List.take_succ_cons, List.take_succ_cons, ← ih k]
      rfl
theorem wcells_drop (M : Wl) : ∀ k, wcells (M.drop k) = (wcells M).drop (k * 2) := by
  induction M with
  | nil => intro k; simp [wcells]
  | cons x M ih =>
    intro k
    have e : wcells (x :: M) = .int .i64 x.1 :: .string x.2 :: wcells M := rfl
    cases k with
    | zero => simp
    | succ k =>
      rw [List.drop_succ_cons, e, show (k + 1) * 2 = k * 2 + 1 + 1 by omega, List.drop_succ_cons, List.drop_succ_cons, ← ih k]
theorem wcells_at : ∀ (M : Wl) (i : Nat) (h : i < M.length), (wcells M)[i * 2]? = some (.int .i64 M[i].1) ∧ (wcells M)[i * 2 + 1]? = some (.string M[i].2)
  | [], i, h => by cases h
  | x :: M, i, h => by
    have e : wcells (x :: M) = .int .i64 x.1 :: .string x.2 :: wcells M := rfl
    cases i with
    | zero => exact ⟨rfl, rfl⟩
    | succ i =>
      have := wcells_at M i (by simpa using h)
      rw [e, show (i + 1) * 2 = i * 2 + 1 + 1 by omega]
      exact this
theorem wcells_one (M : Wl) : ∀ u ∈ wcells M, u.oneCell' = true := by
  intro u hu
  obtain ⟨x, -, hx⟩ := List.mem_flatMap.1 hu
  rcases List.mem_cons.1 hx with rfl | hx
  · rfl
  · rw [List.mem_singleton] at hx; rw [hx]; rfl

/-- The document's transaction. -/
structure RtA (W : World) (rb : Nat) (sv : Value) (M : Wl) (mx : Nat) (dn : Bool) : Prop where
  obj : ∃ v, W.heap[rb]? = some (.cells #[sv, v, .int .i64 mx, .bool dn] 39 (0, 0)) ∧ W.ownsRow 0 111 2 v M.length (wcells M)
  up : Rising M
section
variable {W W' w : World} {rb mx : Nat} {sv : Value} {M : Wl} {dn : Bool}
theorem RtA.of (h : RtA W rb sv M mx dn) (hB : Below W.heap.size W W') : RtA W' rb sv M mx dn := by
  obtain ⟨v, h1, h2⟩ := h.obj
  exact ⟨⟨v, bblk hB h1, ownsRow_of_block h2 (fun k e => hB.block k (ownsRow_lt h2 e))⟩, h.up⟩
set_option maxHeartbeats 2000000 in
theorem rat_any (h : RtA W rb sv M mx dn) (hl : M.length ≤ 100000) (n : Int) : Calls Tryz.prog 46 #[.pointer (some ⟨rb, 0, none⟩), .int .i64 n] W fun e W' => e = .returned (.tuple #[.int .i64 (lessN n M : Nat), .bool (pget n M).isSome]) ∧ Below W.heap.size W W' := by
  obtain ⟨v, ho, hr⟩ := h.obj
  have hc1 := cl_of ho 1
  obtain ⟨ao, cap, rfl, hcell⟩ : ∃ ao cap, v = .slice ao M.length cap ∧ (0 < M.length → ∃ g, ao = some ⟨g, 0, none⟩ ∧ ∀ i (hi : i < M.length), W.cell? ⟨g, i * 2, none⟩ = some (.int .i64 M[i].1)) := by
    rcases hr.2 with ⟨rfl, h0⟩ | ⟨g, cap, cur, rfl, _⟩
    · exact ⟨none, 0, by rw [h0], fun hp => by omega⟩
    · exact ⟨_, _, rfl, fun _ => ⟨g, rfl, fun i hi => by
        have := ownsRow_cell hr rfl (wcells_at M i hi).1
        exact this⟩⟩
  obtain ⟨K, q, hle, hA, hE, hH, hAL, hK, hq⟩ : ∃ (K : Nat) (q : Bool), K ≤ M.length ∧ (∀ (i : Nat) (h : i < M.length), i < K → M[i].1 < n) ∧ (∀ (h : K < M.length), ¬ (M[K]'h).1 < n) ∧ (∀ (h : K < M.length), ((M[K]'h).1 = n ↔ q = true)) ∧ (K = M.length → q = false) ∧ lessN n M = K ∧ (pget n M).isSome = q :=
    ⟨lessN n M, (pget n M).isSome, lessN_le n M, lessN_at n M, lessN_end n M, lessN_has n h.up, fun e => by rw [lessN_all n h.up e]; rfl, rfl, rfl⟩
  rw [hK, hq]
  have HC := Lib.hid hcell
  have HA := Lib.hid hA
  have HE := Lib.hid hE
  have HH := Lib.hid hH
  have HAL := Lib.hid hAL
  clear hcell h ho hr hA hE hH hAL hK hq
  go_enter Tryz.func46, Tryz.ntmps46
  go_wp2_with fail
  go_loopw [6] (fun v6 wr => ∃ k : Nat, k ≤ K ∧ v6 = .int .i64 k ∧ wr = W) (fun v6 _ => K - (intOf v6).toNat)
  case atStart => exact ⟨0, Nat.zero_le _, rfl, rfl⟩
  case round =>
    obtain ⟨k, hk, rfl, rfl⟩ := hrel
    by_cases hlt : k < M.length
    · obtain ⟨g, rfl, hcc⟩ := HC.out (by omega)
      have c1 := hcc k hlt
      have e1 : decide (k < M.length) = true := decide_eq_true hlt
      by_cases hkl : k < K
      · have hx := HA.out k hlt hkl
        generalize M[k].1 = x at *
        have e2 : decide (x < n) = true := decide_eq_true hx
        clear hcc
        go_wp2_with fail
        go_roundw
        case rel => exact ⟨k + 1, by omega, by go_num, trivial⟩
        case measure => simp [intOf]; omega
      · obtain rfl : k = K := by omega
        have hx := HE.out hlt
        have hh := HH.out hlt
        generalize (M[k]'hlt).1 = x at *
        have e2 : decide (x < n) = false := decide_eq_false (by omega)
        have e3 : (x == n) = q := by
          cases q
          · have : ¬ x = n := fun e => by have := hh.1 e; cases this
            simpa using this
          · simpa using hh.2 rfl
        clear hcc hh hx
        go_wp2_with fail
        go_quiet (fail)
        go_wp2_with fail
        go_ret2
        exact ⟨rfl, drewn_b (Below.refl _ _) nq⟩
    · obtain rfl : k = K := by omega
      have hn := HAL.out (by omega)
      subst hn
      have e1 : decide (k < M.length) = false := decide_eq_false hlt
      go_wp2_with fail
      go_quiet (fail)
      go_wp2_with fail
      go_ret2
      exact ⟨rfl, drewn_b (Below.refl _ _) nq⟩

/-- What a write leaves. -/
def rput (n : Nat) (b : ByteArray) (M : Wl) (mx : Nat) : Wl := if (pget n M).isSome = true ∨ M.length < mx then pins n b M else M
theorem rput_length {n : Nat} {b : ByteArray} {M : Wl} {mx : Nat} (hr : Rising M) (h : M.length ≤ mx) : (rput n b M mx).length ≤ mx := by
  unfold rput
  split
  · rename_i hc
    rw [pins_length _ _ hr]
    split
    · exact h
    · rename_i h2
      rcases hc with hc | hc
      · exact absurd hc h2
      · omega
  · exact h
theorem rput_rising {n : Nat} {b : ByteArray} {M : Wl} {mx : Nat} (hr : Rising M) : Rising (rput n b M mx) := by
  unfold rput
  split
  · exact pins_rising _ _ hr
  · exact hr
theorem own_ge {W : World} {b : Nat} {e : TypeId} {size : Nat} {v : Value} {n k : Nat} {xs : List Value} (h : W.ownsRow b e size v n xs) (hk : v.ownBlock = some k) : b ≤ k := by
  rcases h.2 with ⟨rfl, _⟩ | ⟨g, c, cur, rfl, h0, _⟩
  · cases hk
  · cases hk; exact h0
theorem own_some {W : World} {b : Nat} {e : TypeId} {size : Nat} {v : Value} {n : Nat} {xs : List Value} (h : W.ownsRow b e size v n xs) (hn : 0 < n) : ∃ g c, v = .slice (some ⟨g, 0, none⟩) n c := by
  rcases h.2 with ⟨rfl, h0⟩ | ⟨g, c, cur, rfl, h0, _⟩
  · omega
  · exact ⟨_, _, rfl⟩
theorem row_cv {W : World} {b : Nat} {e : TypeId} {size : Nat} {v : Value} {n n' : Nat} {xs xs' : List Value} (hn : n = n') (hx : xs = xs') (h : W.ownsRow b e size v n xs) : W.ownsRow b e size v n' xs' := by
  subst hn hx
  exact h
/-- .. and its row lies in blocks of Z. -/
structure RtX (W : World) (rb : Nat) (sv : Value) (M : Wl) (mx : Nat) (dn : Bool) (Z : Nat → Prop) : Prop where
  obj : ∃ v, W.heap[rb]? = some (.cells #[sv, v, .int .i64 mx, .bool dn] 39 (0, 0)) ∧ W.ownsRow 0 111 2 v M.length (wcells M) ∧ ∀ k, v.ownBlock = some k → Z k
  up : Rising M
theorem RtX.a {W : World} {rb mx : Nat} {sv : Value} {M : Wl} {dn : Bool} {Z : Nat → Prop} (h : RtX W rb sv M mx dn Z) : RtA W rb sv M mx dn := by
  obtain ⟨v, h1, h2, h3⟩ := h.obj
  exact ⟨⟨v, h1, h2⟩, h.up⟩
theorem RtX.keep {W W' : World} {rb mx : Nat} {sv : Value} {M : Wl} {dn : Bool} {Z Z' : Nat → Prop} (h : RtX W rb sv M mx dn Z) (hk : ∀ k, (k = rb ∨ (Z k ∧ ∃ cur, W.heap[k]? = some (.cells cur 111 (0, 0)))) → W'.heap[k]? = W.heap[k]?) (hz : ∀ k, Z k → Z' k) : RtX W' rb sv M mx dn Z' := by
  obtain ⟨v, h1, h2, h3⟩ := h.obj
  refine ⟨⟨v, (hk rb (.inl rfl)).trans h1, ownsRow_of_block h2 (fun k e => hk k (.inr ⟨h3 k e, ownsRow_type h2 e⟩)), fun k e => hz k (h3 k e)⟩, h.up⟩
structure RwPost (W : World) (rb : Nat) (sv : Value) (M : Wl) (mx n : Nat) (b : ByteArray) (Z : Nat → Prop) (W' : World) : Prop where
  rt : RtX W' rb sv (rput n b M mx) mx false (fun k => Z k ∨ W.heap.size ≤ k ∧ k < W'.heap.size)
  fr : Fr (fun k => k = rb) W W'
set_option maxHeartbeats 8000000 in
theorem rwrite_any {Z : Nat → Prop} (h : RtX W rb sv M mx false Z) {ao : Option Addr} {N cap : Nat} (hsv : sv = .slice ao N cap) (hl : M.length ≤ mx) (hmx : mx ≤ 1000) (n : Nat) (hn : n < N) (hN : N ≤ 1000000) (b : ByteArray) (hb : b.size = 64) :
    Calls Tryz.prog 16 #[.pointer (some ⟨rb, 0, none⟩), .int .i64 n, .string b] W fun e W' => e = .returned (.int .i64 (if (pget n M).isSome = true ∨ M.length < mx then 0 else 4)) ∧ RwPost W rb sv M mx n b Z W' := by
  subst hsv
  obtain ⟨i0, ii, hz0, hz1, hz2⟩ := infoPut
  have hat := rat_any h.a (by omega) (n : Int)
  obtain ⟨v, ho, hr, hZ⟩ := h.obj
  have hrb := blk_lt ho
  have hup := h.up
  have hle := lessN_le (n : Int) M
  have hsp := pins_split (n : Int) b hup
  have e1 : decide ((n : Int) < 0) = false := decide_eq_false (by omega)
  have e2 : decide ((n : Int) ≥ (N : Int)) = false := decide_eq_false (by omega)
  have e2' : decide (N ≤ n) = false := decide_eq_false (by omega)
  have e3 : ((b.size : Int) != 64) = false := by simp; omega
  have HAT := Lib.hid hat
  have HUP := Lib.hid hup
  have hkm : (pget (n : Int) M).isSome = true → lessN (n : Int) M < M.length := fun e => by
    rcases Nat.lt_or_ge (lessN (n : Int) M) M.length with h | h
    · exact h
    · rw [lessN_all (n : Int) hup (by omega)] at e; cases e
  obtain ⟨q, hq⟩ : ∃ q, (pget (n : Int) M).isSome = q := ⟨_, rfl⟩
  rw [hq] at HAT hsp
  rw [hq]
  obtain ⟨k, hk⟩ : ∃ k, lessN (n : Int) M = k := ⟨_, rfl⟩
  rw [hk] at HAT hsp hle hkm
  rw [hq] at hkm
  have HKM := Lib.hid hkm
  clear hkm
  have o0 := cl_of ho 0
  have o1 := cl_of ho 1
  have o2 := cl_of ho 2
  have o3 := cl_of ho 3
  have f1 := fz_of ho 1
  by_cases hcase : q = true ∨ M.length < mx
  · rw [if_pos hcase]
    have hM2 : rput n b M mx = M.take k ++ ((n : Int), b) :: M.drop (k + (if q = true then 1 else 0)) := by rw [rput, hq, if_pos hcase]; exact hsp
    have HM2 := Lib.hid hM2
    clear hsp
    have e4 : q = false → decide ((M.length : Int) ≥ (mx : Int)) = false := fun e => decide_eq_false (by rcases hcase with h | h; rw [e] at h; cases h; omega)
    have e4' : q = false → M.length < mx := fun e => (by rcases hcase with h | h; rw [e] at h; cases h; exact h)
    have hwk : IntKind.i64.wrap ((k : Int) + 1) = ((k + 1 : Nat) : Int) := by rw [i64_sm (by omega) (by omega)]; push_cast; rfl
    have HFIN : Hid (∀ (w3 : World) (v3 : Value), Below W.heap.size W w3 → w3.ownsRow W.heap.size 111 2 v3 (M.take k ++ ((n : Int), b) :: M.drop (k + (if q = true then 1 else 0))).length (wcells (M.take k ++ ((n : Int), b) :: M.drop (k + (if q = true then 1 else 0)))) → RwPost W rb (.slice ao N cap) M mx n b Z (w3.setCell ⟨rb, 1, none⟩ v3)) := Lib.hid (fun w3 v3 hB hr3 => by
      have ho3 := bblk hB ho
      refine ⟨⟨⟨v3, by rw [blk_here ho3 1]; rfl, ?_, fun k e => .inr ⟨own_ge hr3 e, by have := ownsRow_lt (ownsRow_base hr3) e; simpa using this⟩⟩, rput_rising hup⟩, Fr.setCell (S := fun k => k = rb) (Fr.of_below hB) ⟨rb, 1, none⟩ (.inr rfl) _⟩
      rw [HM2.out]
      refine ownsRow_of_block (ownsRow_base hr3) (fun i e => Below.heap_setCell w3 _ v3 i (fun e2 => ?_))
      rcases hr3.2 with ⟨rfl, _⟩ | ⟨g, c, cur, rfl, h0, _⟩
      · cases e
      · cases e
        have : g = rb := e2
        omega)
    have HX := Lib.hid ho
    rcases hr.2 with ⟨rfl, h0⟩ | ⟨g, cap2, cur, rfl, hg0, hgb, hnc, hcm, hcs, hct⟩
    · have hM0 : M = [] := List.eq_nil_of_length_eq_zero h0
      subst hM0
      have hk0 : k = 0 := by simpa using hle
      subst hk0
      have hq0 : q = false := by rw [← hq]; rfl
      subst hq0
      clear h hat hr hup hcase hq hk ho hM2 hle
      go_enter Tryz.func16, Tryz.ntmps16
      go_wp2_with fail
      refine HAT.out.mono ?_
      rintro e w1 ⟨rfl, hB1⟩
      have p1 := (World.cell?_of_block (w := W) (hB1.block rb hrb) : w1.cell? ⟨rb, 1, none⟩ = W.cell? ⟨rb, 1, none⟩).trans o1
      have p2 := (World.cell?_of_block (w := W) (hB1.block rb hrb) : w1.cell? ⟨rb, 2, none⟩ = W.cell? ⟨rb, 2, none⟩).trans o2
      have pf := (World.frozen?_of_block (w := W) (hB1.block rb hrb) : w1.frozen? ⟨rb, 1, none⟩ = W.frozen? ⟨rb, 1, none⟩).trans f1
      have HB1 := Lib.hid hB1
      have e5 := e4' (by trivial)
      clear hB1
      go_wp2_with fail
      go_quiet (fail)
      have HB2 := Lib.hid (drewn_b HB1.out nq)
      have hnn : (w1.drewN nq).ownsRow W.heap.size 111 2 (.slice none 0 0) 0 [] := World.ownsRow_nil _ _ _ _
      have hone : ∀ u ∈ [Value.int .i64 (n : Int), .string b], u.oneCell' = true := by simp [Value.oneCell']
      have hsz : W.heap.size ≤ w1.heap.size := HB1.out.size
      have h63 : 0 + 1 ≤ maxLen := by decide
      have hby : (0 + 1) * 24 ≤ 140737488355328 := by decide
      have hsz2 : W.heap.size ≤ ((w1.drewN nq).alloc (.cells #[.int .i64 (n : Int), .string b] 111)).heap.size := Nat.le_trans hsz (by simp)
      have hnn2 : ((w1.drewN nq).alloc (.cells #[.int .i64 (n : Int), .string b] 111)).ownsRow W.heap.size 111 2 (.slice none 0 0) 0 [] := World.ownsRow_nil _ _ _ _
      have HB3 := Lib.hid (bal HB2.out (.cells #[.int .i64 (n : Int), .string b] 111))
      go_wp2_with (first | (at_builtin; refine wpList_append_own_none rfl _ _ 37 rfl W.heap.size 111 i0 2 Tryz.underlying37 ii _ 0 [] rfl hnn rfl ?_) | (at_builtin; refine wpList_append_own _ rfl _ _ 37 rfl W.heap.size 111 i0 (.agg #[.int .i64 0, .string ByteArray.empty]) 2 24 Tryz.underlying37 ii hz0 hz1 hz2 rfl (by decide) _ 0 [] rfl hnn2 ⟨w1.heap.size, 0, none⟩ 1 1 [.int .i64 (n : Int), .string b] rfl rfl (World.news_of_block (hp_new _ _ rfl)) hone h63 hby hsz2 ?_; intro v' w5 hown' hgrow _; have B5 := HB3.out.grown hgrow HB3.out.size (fun k e => by cases e); have p5 := (World.cell?_of_block (w := W) (B5.block rb hrb) : w5.cell? ⟨rb, 1, none⟩ = W.cell? ⟨rb, 1, none⟩).trans o1; have pf5 := (World.frozen?_of_block (w := W) (B5.block rb hrb) : w5.frozen? ⟨rb, 1, none⟩ = W.frozen? ⟨rb, 1, none⟩).trans f1; obtain ⟨g', cap', rfl⟩ := ownsRow_succ hown') | (at_builtin; refine wpList_append_own_none rfl _ _ 37 rfl W.heap.size 111 i0 2 Tryz.underlying37 ii _ (0 + 1) ([] ++ [.int .i64 (n : Int), .string b]) rfl (by assumption) rfl ?_))
      go_ret
      exact ⟨rfl, HFIN.out w5 _ B5 hown'⟩
    · have hgl := blk_lt hgb
      have hnws : ∀ (W2 : World), W2.heap[g]? = W.heap[g]? → ∀ j u, (wcells M)[j]? = some u → W2.cell? ⟨g, j, none⟩ = some u := fun W2 e j u hj => (World.cell?_of_block (w := W) e).trans (ownsRow_cell hr rfl hj)
      have ht1 : ∀ (W2 : World), W2.heap[g]? = W.heap[g]? → ∀ j u, ((wcells M).take (k * 2))[j]? = some u → W2.cell? ((⟨g, 0, none⟩ : Addr).add j) = some u := fun W2 e j u hj => by
        rw [Addr.add_lit, Nat.zero_add]
        refine hnws W2 e j u ?_
        rw [List.getElem?_take] at hj
        split at hj
        · exact hj
        · cases hj
      have hd1 : ∀ (W2 : World) (kk : Nat), W2.heap[g]? = W.heap[g]? → ∀ j u, ((wcells M).drop (kk * 2))[j]? = some u → W2.cell? ((⟨g, kk * 2, none⟩ : Addr).add j) = some u := fun W2 kk e j u hj => by
        rw [Addr.add_lit]
        refine hnws W2 e (kk * 2 + j) u ?_
        rw [List.getElem?_drop] at hj
        exact hj
      have hone1 : ∀ u ∈ (wcells M).take (k * 2), u.oneCell' = true := fun u hu => wcells_one M u (List.mem_of_mem_take hu)
      have hone3 : ∀ (kk : Nat), ∀ u ∈ (wcells M).drop (kk * 2), u.oneCell' = true := fun kk u hu => wcells_one M u (List.mem_of_mem_drop hu)
      have hlt1 : ((wcells M).take (k * 2)).length = k * 2 := by rw [List.length_take, wcells_length]; omega
      have hld3 : ∀ kk, ((wcells M).drop (kk * 2)).length = (M.length - kk) * 2 := fun kk => by rw [List.length_drop, wcells_length]; omega
      have HT1 := Lib.hid ht1
      have HD1 := Lib.hid hd1
      clear ht1 hd1 hnws h hat hr hup hk ho hM2 hct hcs hgb
      cases q
      · have e5 := e4' (by trivial)
        have hcv : ∀ (w7 : World) (v7 : Value), w7.ownsRow W.heap.size 111 2 v7 (k + 1 + (M.length - k)) ((wcells M).take (k * 2) ++ [.int .i64 (n : Int), .string b] ++ (wcells M).drop (k * 2)) → w7.ownsRow W.heap.size 111 2 v7 (M.take k ++ ((n : Int), b) :: M.drop (k + (if false = true then 1 else 0))).length (wcells (M.take k ++ ((n : Int), b) :: M.drop (k + (if false = true then 1 else 0)))) := fun w7 v7 h7 => row_cv (by simp; omega) (by rw [wcells_append, wcells_take]; show _ = _ ++ wcells ([((n : Int), b)] ++ M.drop _); rw [wcells_append, wcells_drop]; simp [wcells]) h7
        by_cases hcap : cap2 = k
        · go_enter Tryz.func16, Tryz.ntmps16
          go_wp2_with fail
          refine HAT.out.mono ?_
          rintro e w1 ⟨rfl, hB1⟩
          have p1 := (World.cell?_of_block (w := W) (hB1.block rb hrb) : w1.cell? ⟨rb, 1, none⟩ = W.cell? ⟨rb, 1, none⟩).trans o1
          have p2 := (World.cell?_of_block (w := W) (hB1.block rb hrb) : w1.cell? ⟨rb, 2, none⟩ = W.cell? ⟨rb, 2, none⟩).trans o2
          have HB1 := Lib.hid hB1
          clear hB1
          go_wp2_with fail
          go_quiet (fail)
          have HB2 := Lib.hid (drewn_b HB1.out nq)
          have ht1 := HT1.out (w1.drewN nq) (HB1.out.block g hgl)
          have hnn : (w1.drewN nq).ownsRow W.heap.size 111 2 (.slice none 0 0) 0 [] := World.ownsRow_nil _ _ _ _
          have hone2 : ∀ u ∈ [Value.int .i64 (n : Int), .string b], u.oneCell' = true := by simp [Value.oneCell']
          have h631 : 0 + k ≤ maxLen := by unfold maxLen; omega
          have hby1 : (0 + k) * 24 ≤ 140737488355328 := by omega
          have h632 : k + 1 ≤ maxLen := by unfold maxLen; omega
          have hby2 : (k + 1) * 24 ≤ 140737488355328 := by omega
          have h633 : k + 1 + (M.length - k) ≤ maxLen := by unfold maxLen; omega
          have hby3 : (k + 1 + (M.length - k)) * 24 ≤ 140737488355328 := by omega
          have hbs1 : W.heap.size ≤ (w1.drewN nq).heap.size := HB2.out.size
          have i1 : (0 : Int) ≤ (k : Int) := by omega
          have i2 : (k : Int) ≤ (cap2 : Int) := by omega
          have i3 : (k : Int) ≤ (M.length : Int) := by omega
          have i4 : ((k : Nat) : Int) ≤ (M.length : Int) := by omega
          have i5 : (0 : Int) ≤ ((k : Nat) : Int) := by omega
          have hld3' := hld3 k
          have hone3' := hone3 k
          have HFIN2 := HFIN.out
          go_wp2_with (first | (at_builtin; refine wpList_append_own _ rfl _ _ 37 rfl W.heap.size 111 i0 (.agg #[.int .i64 0, .string ByteArray.empty]) 2 24 Tryz.underlying37 ii hz0 hz1 hz2 rfl (by decide) _ 0 [] rfl hnn ⟨g, 0, none⟩ k _ ((wcells M).take (k * 2)) rfl hlt1 ht1 hone1 h631 hby1 hbs1 ?_; intro v1 w3 hown1a hgrow1 _; have hown1 := row_cv (Nat.zero_add k) (List.nil_append _) hown1a; have B3 := HB2.out.grown hgrow1 HB2.out.size (fun k e => by cases e); have B4 := bal B3 (.cells #[.int .i64 (n : Int), .string b] 111); have hbs2 : W.heap.size ≤ (w3.alloc (.cells #[.int .i64 (n : Int), .string b] 111)).heap.size := B4.size) | (at_builtin; refine wpList_append_own _ rfl _ _ 37 rfl W.heap.size 111 i0 (.agg #[.int .i64 0, .string ByteArray.empty]) 2 24 Tryz.underlying37 ii hz0 hz1 hz2 rfl (by decide) _ k ((wcells M).take (k * 2)) rfl (hown1.alloc _) ⟨w3.heap.size, 0, none⟩ 1 1 [.int .i64 (n : Int), .string b] rfl rfl (World.news_of_block (hp_new _ _ rfl)) hone2 h632 hby2 hbs2 ?_; intro v' w5 hown' hgrow _; have B5 := B4.grown hgrow B4.size (fun k e => own_ge hown1 e); have p5 := (World.cell?_of_block (w := W) (B5.block rb hrb) : w5.cell? ⟨rb, 1, none⟩ = W.cell? ⟨rb, 1, none⟩).trans o1; obtain ⟨g', cap', rfl⟩ := ownsRow_succ hown'; have hd3 : ∀ (j : Nat) (u : Value), ((wcells M).drop (k * 2))[j]? = some u → w5.cell? ((⟨g, 0, none⟩ : Addr).add j) = some u := (fun j u hj => absurd hj (by rw [List.getElem?_eq_none (by rw [hld3']; omega)]; simp)); have hbs3 := B5.size) | (at_builtin; refine wpList_append_own _ rfl _ _ 37 rfl W.heap.size 111 i0 (.agg #[.int .i64 0, .string ByteArray.empty]) 2 24 Tryz.underlying37 ii hz0 hz1 hz2 rfl (by decide) (.slice (some ⟨g', 0, none⟩) (k + 1) cap') (k + 1) ((wcells M).take (k * 2) ++ [.int .i64 (n : Int), .string b]) rfl hown' ⟨g, 0, none⟩ (M.length - k) _ ((wcells M).drop (k * 2)) rfl hld3' hd3 hone3' h633 hby3 hbs3 ?_; intro v7 w7 hown7 hgrow7 _; have B7 := B5.grown hgrow7 B5.size (fun k e => own_ge hown' e); have p7 := (World.cell?_of_block (w := W) (B7.block rb hrb) : w7.cell? ⟨rb, 1, none⟩ = W.cell? ⟨rb, 1, none⟩).trans o1; have pf7 := (World.frozen?_of_block (w := W) (B7.block rb hrb) : w7.frozen? ⟨rb, 1, none⟩ = W.frozen? ⟨rb, 1, none⟩).trans f1; obtain ⟨g7, cap7, rfl⟩ : ∃ g7 cap7, v7 = .slice (some ⟨g7, 0, none⟩) (k + 1 + (M.length - k)) cap7 := own_some hown7 (by omega)))
          go_ret
          exact ⟨rfl, HFIN.out w7 _ B7 (hcv _ _ hown7)⟩
        · go_enter Tryz.func16, Tryz.ntmps16
          go_wp2_with fail
          refine HAT.out.mono ?_
          rintro e w1 ⟨rfl, hB1⟩
          have p1 := (World.cell?_of_block (w := W) (hB1.block rb hrb) : w1.cell? ⟨rb, 1, none⟩ = W.cell? ⟨rb, 1, none⟩).trans o1
          have p2 := (World.cell?_of_block (w := W) (hB1.block rb hrb) : w1.cell? ⟨rb, 2, none⟩ = W.cell? ⟨rb, 2, none⟩).trans o2
          have HB1 := Lib.hid hB1
          clear hB1
          go_wp2_with fail
          go_quiet (fail)
          have HB2 := Lib.hid (drewn_b HB1.out nq)
          have ht1 := HT1.out (w1.drewN nq) (HB1.out.block g hgl)
          have hnn : (w1.drewN nq).ownsRow W.heap.size 111 2 (.slice none 0 0) 0 [] := World.ownsRow_nil _ _ _ _
          have hone2 : ∀ u ∈ [Value.int .i64 (n : Int), .string b], u.oneCell' = true := by simp [Value.oneCell']
          have h631 : 0 + k ≤ maxLen := by unfold maxLen; omega
          have hby1 : (0 + k) * 24 ≤ 140737488355328 := by omega
          have h632 : k + 1 ≤ maxLen := by unfold maxLen; omega
          have hby2 : (k + 1) * 24 ≤ 140737488355328 := by omega
          have h633 : k + 1 + (M.length - k) ≤ maxLen := by unfold maxLen; omega
          have hby3 : (k + 1 + (M.length - k)) * 24 ≤ 140737488355328 := by omega
          have hbs1 : W.heap.size ≤ (w1.drewN nq).heap.size := HB2.out.size
          have i1 : (0 : Int) ≤ (k : Int) := by omega
          have i2 : (k : Int) ≤ (cap2 : Int) := by omega
          have i3 : (k : Int) ≤ (M.length : Int) := by omega
          have i4 : ((k : Nat) : Int) ≤ (M.length : Int) := by omega
          have i5 : (0 : Int) ≤ ((k : Nat) : Int) := by omega
          have hld3' := hld3 k
          have hone3' := hone3 k
          have HFIN2 := HFIN.out
          go_wp2_with (first | (at_builtin; refine wpList_append_own _ rfl _ _ 37 rfl W.heap.size 111 i0 (.agg #[.int .i64 0, .string ByteArray.empty]) 2 24 Tryz.underlying37 ii hz0 hz1 hz2 rfl (by decide) _ 0 [] rfl hnn ⟨g, 0, none⟩ k _ ((wcells M).take (k * 2)) rfl hlt1 ht1 hone1 h631 hby1 hbs1 ?_; intro v1 w3 hown1a hgrow1 _; have hown1 := row_cv (Nat.zero_add k) (List.nil_append _) hown1a; have B3 := HB2.out.grown hgrow1 HB2.out.size (fun k e => by cases e); have B4 := bal B3 (.cells #[.int .i64 (n : Int), .string b] 111); have hbs2 : W.heap.size ≤ (w3.alloc (.cells #[.int .i64 (n : Int), .string b] 111)).heap.size := B4.size) | (at_builtin; refine wpList_append_own _ rfl _ _ 37 rfl W.heap.size 111 i0 (.agg #[.int .i64 0, .string ByteArray.empty]) 2 24 Tryz.underlying37 ii hz0 hz1 hz2 rfl (by decide) _ k ((wcells M).take (k * 2)) rfl (hown1.alloc _) ⟨w3.heap.size, 0, none⟩ 1 1 [.int .i64 (n : Int), .string b] rfl rfl (World.news_of_block (hp_new _ _ rfl)) hone2 h632 hby2 hbs2 ?_; intro v' w5 hown' hgrow _; have B5 := B4.grown hgrow B4.size (fun k e => own_ge hown1 e); have p5 := (World.cell?_of_block (w := W) (B5.block rb hrb) : w5.cell? ⟨rb, 1, none⟩ = W.cell? ⟨rb, 1, none⟩).trans o1; obtain ⟨g', cap', rfl⟩ := ownsRow_succ hown'; have hd3 := HD1.out w5 k (B5.block g hgl); have hbs3 := B5.size) | (at_builtin; refine wpList_append_own _ rfl _ _ 37 rfl W.heap.size 111 i0 (.agg #[.int .i64 0, .string ByteArray.empty]) 2 24 Tryz.underlying37 ii hz0 hz1 hz2 rfl (by decide) (.slice (some ⟨g', 0, none⟩) (k + 1) cap') (k + 1) ((wcells M).take (k * 2) ++ [.int .i64 (n : Int), .string b]) rfl hown' ⟨g, k * 2, none⟩ (M.length - k) _ ((wcells M).drop (k * 2)) rfl hld3' hd3 hone3' h633 hby3 hbs3 ?_; intro v7 w7 hown7 hgrow7 _; have B7 := B5.grown hgrow7 B5.size (fun k e => own_ge hown' e); have p7 := (World.cell?_of_block (w := W) (B7.block rb hrb) : w7.cell? ⟨rb, 1, none⟩ = W.cell? ⟨rb, 1, none⟩).trans o1; have pf7 := (World.frozen?_of_block (w := W) (B7.block rb hrb) : w7.frozen? ⟨rb, 1, none⟩ = W.frozen? ⟨rb, 1, none⟩).trans f1; obtain ⟨g7, cap7, rfl⟩ : ∃ g7 cap7, v7 = .slice (some ⟨g7, 0, none⟩) (k + 1 + (M.length - k)) cap7 := own_some hown7 (by omega)))
          go_ret
          exact ⟨rfl, HFIN.out w7 _ B7 (hcv _ _ hown7)⟩
      · have hkM := HKM.out rfl
        have hcv : ∀ (w7 : World) (v7 : Value), w7.ownsRow W.heap.size 111 2 v7 (k + 1 + (M.length - (k + 1))) ((wcells M).take (k * 2) ++ [.int .i64 (n : Int), .string b] ++ (wcells M).drop ((k + 1) * 2)) → w7.ownsRow W.heap.size 111 2 v7 (M.take k ++ ((n : Int), b) :: M.drop (k + (if true = true then 1 else 0))).length (wcells (M.take k ++ ((n : Int), b) :: M.drop (k + (if true = true then 1 else 0)))) := fun w7 v7 h7 => row_cv (by simp; omega) (by rw [wcells_append, wcells_take]; show _ = _ ++ wcells ([((n : Int), b)] ++ M.drop _); rw [wcells_append, wcells_drop]; simp [wcells]) h7
        by_cases hcap : cap2 = (k + 1)
        · go_enter Tryz.func16, Tryz.ntmps16
          go_wp2_with fail
          refine HAT.out.mono ?_
          rintro e w1 ⟨rfl, hB1⟩
          have p1 := (World.cell?_of_block (w := W) (hB1.block rb hrb) : w1.cell? ⟨rb, 1, none⟩ = W.cell? ⟨rb, 1, none⟩).trans o1
          have p2 := (World.cell?_of_block (w := W) (hB1.block rb hrb) : w1.cell? ⟨rb, 2, none⟩ = W.cell? ⟨rb, 2, none⟩).trans o2
          have HB1 := Lib.hid hB1
          clear hB1
          go_wp2_with fail
          go_quiet (fail)
          have HB2 := Lib.hid (drewn_b HB1.out nq)
          have ht1 := HT1.out (w1.drewN nq) (HB1.out.block g hgl)
          have hnn : (w1.drewN nq).ownsRow W.heap.size 111 2 (.slice none 0 0) 0 [] := World.ownsRow_nil _ _ _ _
          have hone2 : ∀ u ∈ [Value.int .i64 (n : Int), .string b], u.oneCell' = true := by simp [Value.oneCell']
          have h631 : 0 + k ≤ maxLen := by unfold maxLen; omega
          have hby1 : (0 + k) * 24 ≤ 140737488355328 := by omega
          have h632 : k + 1 ≤ maxLen := by unfold maxLen; omega
          have hby2 : (k + 1) * 24 ≤ 140737488355328 := by omega
          have h633 : k + 1 + (M.length - (k + 1)) ≤ maxLen := by unfold maxLen; omega
          have hby3 : (k + 1 + (M.length - (k + 1))) * 24 ≤ 140737488355328 := by omega
          have hbs1 : W.heap.size ≤ (w1.drewN nq).heap.size := HB2.out.size
          have i1 : (0 : Int) ≤ (k : Int) := by omega
          have i2 : (k : Int) ≤ (cap2 : Int) := by omega
          have i3 : (k : Int) ≤ (M.length : Int) := by omega
          have i4 : (((k + 1) : Nat) : Int) ≤ (M.length : Int) := by omega
          have i5 : (0 : Int) ≤ (((k + 1) : Nat) : Int) := by omega
          have hld3' := hld3 (k + 1)
          have hone3' := hone3 (k + 1)
          have HFIN2 := HFIN.out
          go_wp2_with (first | (at_builtin; refine wpList_append_own _ rfl _ _ 37 rfl W.heap.size 111 i0 (.agg #[.int .i64 0, .string ByteArray.empty]) 2 24 Tryz.underlying37 ii hz0 hz1 hz2 rfl (by decide) _ 0 [] rfl hnn ⟨g, 0, none⟩ k _ ((wcells M).take (k * 2)) rfl hlt1 ht1 hone1 h631 hby1 hbs1 ?_; intro v1 w3 hown1a hgrow1 _; have hown1 := row_cv (Nat.zero_add k) (List.nil_append _) hown1a; have B3 := HB2.out.grown hgrow1 HB2.out.size (fun k e => by cases e); have B4 := bal B3 (.cells #[.int .i64 (n : Int), .string b] 111); have hbs2 : W.heap.size ≤ (w3.alloc (.cells #[.int .i64 (n : Int), .string b] 111)).heap.size := B4.size) | (at_builtin; refine wpList_append_own _ rfl _ _ 37 rfl W.heap.size 111 i0 (.agg #[.int .i64 0, .string ByteArray.empty]) 2 24 Tryz.underlying37 ii hz0 hz1 hz2 rfl (by decide) _ k ((wcells M).take (k * 2)) rfl (hown1.alloc _) ⟨w3.heap.size, 0, none⟩ 1 1 [.int .i64 (n : Int), .string b] rfl rfl (World.news_of_block (hp_new _ _ rfl)) hone2 h632 hby2 hbs2 ?_; intro v' w5 hown' hgrow _; have B5 := B4.grown hgrow B4.size (fun k e => own_ge hown1 e); have p5 := (World.cell?_of_block (w := W) (B5.block rb hrb) : w5.cell? ⟨rb, 1, none⟩ = W.cell? ⟨rb, 1, none⟩).trans o1; obtain ⟨g', cap', rfl⟩ := ownsRow_succ hown'; have hd3 : ∀ (j : Nat) (u : Value), ((wcells M).drop ((k + 1) * 2))[j]? = some u → w5.cell? ((⟨g, 0, none⟩ : Addr).add j) = some u := (fun j u hj => absurd hj (by rw [List.getElem?_eq_none (by rw [hld3']; omega)]; simp)); have hbs3 := B5.size) | (at_builtin; refine wpList_append_own _ rfl _ _ 37 rfl W.heap.size 111 i0 (.agg #[.int .i64 0, .string ByteArray.empty]) 2 24 Tryz.underlying37 ii hz0 hz1 hz2 rfl (by decide) (.slice (some ⟨g', 0, none⟩) (k + 1) cap') (k + 1) ((wcells M).take (k * 2) ++ [.int .i64 (n : Int), .string b]) rfl hown' ⟨g, 0, none⟩ (M.length - (k + 1)) _ ((wcells M).drop ((k + 1) * 2)) rfl hld3' hd3 hone3' h633 hby3 hbs3 ?_; intro v7 w7 hown7 hgrow7 _; have B7 := B5.grown hgrow7 B5.size (fun k e => own_ge hown' e); have p7 := (World.cell?_of_block (w := W) (B7.block rb hrb) : w7.cell? ⟨rb, 1, none⟩ = W.cell? ⟨rb, 1, none⟩).trans o1; have pf7 := (World.frozen?_of_block (w := W) (B7.block rb hrb) : w7.frozen? ⟨rb, 1, none⟩ = W.frozen? ⟨rb, 1, none⟩).trans f1; obtain ⟨g7, cap7, rfl⟩ : ∃ g7 cap7, v7 = .slice (some ⟨g7, 0, none⟩) (k + 1 + (M.length - (k + 1))) cap7 := own_some hown7 (by omega)))
          go_ret
          exact ⟨rfl, HFIN.out w7 _ B7 (hcv _ _ hown7)⟩
        · go_enter Tryz.func16, Tryz.ntmps16
          go_wp2_with fail
          refine HAT.out.mono ?_
          rintro e w1 ⟨rfl, hB1⟩
          have p1 := (World.cell?_of_block (w := W) (hB1.block rb hrb) : w1.cell? ⟨rb, 1, none⟩ = W.cell? ⟨rb, 1, none⟩).trans o1
          have p2 := (World.cell?_of_block (w := W) (hB1.block rb hrb) : w1.cell? ⟨rb, 2, none⟩ = W.cell? ⟨rb, 2, none⟩).trans o2
          have HB1 := Lib.hid hB1
          clear hB1
          go_wp2_with fail
          go_quiet (fail)
          have HB2 := Lib.hid (drewn_b HB1.out nq)
          have ht1 := HT1.out (w1.drewN nq) (HB1.out.block g hgl)
          have hnn : (w1.drewN nq).ownsRow W.heap.size 111 2 (.slice none 0 0) 0 [] := World.ownsRow_nil _ _ _ _
          have hone2 : ∀ u ∈ [Value.int .i64 (n : Int), .string b], u.oneCell' = true := by simp [Value.oneCell']
          have h631 : 0 + k ≤ maxLen := by unfold maxLen; omega
          have hby1 : (0 + k) * 24 ≤ 140737488355328 := by omega
          have h632 : k + 1 ≤ maxLen := by unfold maxLen; omega
          have hby2 : (k + 1) * 24 ≤ 140737488355328 := by omega
          have h633 : k + 1 + (M.length - (k + 1)) ≤ maxLen := by unfold maxLen; omega
          have hby3 : (k + 1 + (M.length - (k + 1))) * 24 ≤ 140737488355328 := by omega
          have hbs1 : W.heap.size ≤ (w1.drewN nq).heap.size := HB2.out.size
          have i1 : (0 : Int) ≤ (k : Int) := by omega
          have i2 : (k : Int) ≤ (cap2 : Int) := by omega
          have i3 : (k : Int) ≤ (M.length : Int) := by omega
          have i4 : (((k + 1) : Nat) : Int) ≤ (M.length : Int) := by omega
          have i5 : (0 : Int) ≤ (((k + 1) : Nat) : Int) := by omega
          have hld3' := hld3 (k + 1)
          have hone3' := hone3 (k + 1)
          have HFIN2 := HFIN.out
          go_wp2_with (first | (at_builtin; refine wpList_append_own _ rfl _ _ 37 rfl W.heap.size 111 i0 (.agg #[.int .i64 0, .string ByteArray.empty]) 2 24 Tryz.underlying37 ii hz0 hz1 hz2 rfl (by decide) _ 0 [] rfl hnn ⟨g, 0, none⟩ k _ ((wcells M).take (k * 2)) rfl hlt1 ht1 hone1 h631 hby1 hbs1 ?_; intro v1 w3 hown1a hgrow1 _; have hown1 := row_cv (Nat.zero_add k) (List.nil_append _) hown1a; have B3 := HB2.out.grown hgrow1 HB2.out.size (fun k e => by cases e); have B4 := bal B3 (.cells #[.int .i64 (n : Int), .string b] 111); have hbs2 : W.heap.size ≤ (w3.alloc (.cells #[.int .i64 (n : Int), .string b] 111)).heap.size := B4.size) | (at_builtin; refine wpList_append_own _ rfl _ _ 37 rfl W.heap.size 111 i0 (.agg #[.int .i64 0, .string ByteArray.empty]) 2 24 Tryz.underlying37 ii hz0 hz1 hz2 rfl (by decide) _ k ((wcells M).take (k * 2)) rfl (hown1.alloc _) ⟨w3.heap.size, 0, none⟩ 1 1 [.int .i64 (n : Int), .string b] rfl rfl (World.news_of_block (hp_new _ _ rfl)) hone2 h632 hby2 hbs2 ?_; intro v' w5 hown' hgrow _; have B5 := B4.grown hgrow B4.size (fun k e => own_ge hown1 e); have p5 := (World.cell?_of_block (w := W) (B5.block rb hrb) : w5.cell? ⟨rb, 1, none⟩ = W.cell? ⟨rb, 1, none⟩).trans o1; obtain ⟨g', cap', rfl⟩ := ownsRow_succ hown'; have hd3 := HD1.out w5 (k + 1) (B5.block g hgl); have hbs3 := B5.size) | (at_builtin; refine wpList_append_own _ rfl _ _ 37 rfl W.heap.size 111 i0 (.agg #[.int .i64 0, .string ByteArray.empty]) 2 24 Tryz.underlying37 ii hz0 hz1 hz2 rfl (by decide) (.slice (some ⟨g', 0, none⟩) (k + 1) cap') (k + 1) ((wcells M).take (k * 2) ++ [.int .i64 (n : Int), .string b]) rfl hown' ⟨g, (k + 1) * 2, none⟩ (M.length - (k + 1)) _ ((wcells M).drop ((k + 1) * 2)) rfl hld3' hd3 hone3' h633 hby3 hbs3 ?_; intro v7 w7 hown7 hgrow7 _; have B7 := B5.grown hgrow7 B5.size (fun k e => own_ge hown' e); have p7 := (World.cell?_of_block (w := W) (B7.block rb hrb) : w7.cell? ⟨rb, 1, none⟩ = W.cell? ⟨rb, 1, none⟩).trans o1; have pf7 := (World.frozen?_of_block (w := W) (B7.block rb hrb) : w7.frozen? ⟨rb, 1, none⟩ = W.frozen? ⟨rb, 1, none⟩).trans f1; obtain ⟨g7, cap7, rfl⟩ : ∃ g7 cap7, v7 = .slice (some ⟨g7, 0, none⟩) (k + 1 + (M.length - (k + 1))) cap7 := own_some hown7 (by omega)))
          go_ret
          exact ⟨rfl, HFIN.out w7 _ B7 (hcv _ _ hown7)⟩
  · rw [if_neg hcase]
    have hM2 : rput n b M mx = M := by rw [rput, hq, if_neg hcase]
    have HM2 := Lib.hid hM2
    clear hM2 hsp
    have hq2 : q = false := by cases q; rfl; exact absurd (.inl rfl) hcase
    subst hq2
    have hml : ¬ M.length < mx := fun e => hcase (.inr e)
    have e4 : decide ((M.length : Int) ≥ (mx : Int)) = true := decide_eq_true (by omega)
    have e4' : decide (mx ≤ M.length) = true := decide_eq_true (by omega)
    have HP : Hid (∀ W', Below W.heap.size W W' → RwPost W rb (.slice ao N cap) M mx n b Z W') := Lib.hid (fun W' hB => ⟨by rw [HM2.out]; exact h.keep (fun k hk => hB.block k (by rcases hk with rfl | ⟨_, cur, hk⟩; exact hrb; exact blk_lt hk)) (fun k hk => .inl hk), Fr.of_below hB⟩)
    obtain ⟨ao2, cap2, rfl⟩ : ∃ ao2 cap2, v = .slice ao2 M.length cap2 := by
      rcases hr.2 with ⟨rfl, h0⟩ | ⟨g, cap, cur, rfl, _⟩
      · exact ⟨none, 0, by rw [h0]⟩
      · exact ⟨_, _, rfl⟩
    clear h hat hr hup hcase hq hk ho
    go_enter Tryz.func16, Tryz.ntmps16
    go_wp2_with fail
    refine HAT.out.mono ?_
    rintro e w1 ⟨rfl, hB1⟩
    have p1 := (World.cell?_of_block (w := W) (hB1.block rb hrb) : w1.cell? ⟨rb, 1, none⟩ = W.cell? ⟨rb, 1, none⟩).trans o1
    have p2 := (World.cell?_of_block (w := W) (hB1.block rb hrb) : w1.cell? ⟨rb, 2, none⟩ = W.cell? ⟨rb, 2, none⟩).trans o2
    have HB1 := Lib.hid hB1
    clear hB1
    go_wp2_with fail
    go_quiet (fail)
    go_wp2_with fail
    go_ret
    exact ⟨rfl, HP.out _ (drewn_b HB1.out nq)⟩
end
end Go.Proofs.YtjjphcnoegaimaaGreat

namespace Go.Proofs.YtjjphcnoegaimaaGreat
open Go.RowKit Go.Shelf Go.Maps
set_option maxRecDepth 20000
set_option linter.unusedVariables false

section
variable {w0 w W W' W1 : World} {X : Nat → Prop} {L : List ByteArray} {v v' : Value} {wr w1 : World} {rb mx : Nat}
/-- Sectors' texts behind a transaction. -/
def laidL (S : List ByteArray) (l : Puts) : List ByteArray := l.foldl (fun S x => S.set x.1 x.2) S
theorem laidL_length (l : Puts) : ∀ S, (laidL S l).length = S.length := by
  induction l with
  | nil => intro S; rfl
  | cons x l ih => intro S; rw [laidL, List.foldl_cons, ← laidL, ih, List.length_set]
theorem laidL_get (l : Puts) : ∀ (S : List ByteArray) (f : Nat → ByteArray), (∀ x ∈ l, x.1 < S.length) → ∀ i, i < S.length → S.getD i ByteArray.empty = f i → (∀ j, j < S.length → S.getD j ByteArray.empty = f j) → (laidL S l).getD i ByteArray.empty = laid f l i := by
  induction l with
  | nil => intro S f _ i _ h _; exact h
  | cons x l ih =>
    intro S f hx i hi h hall
    rw [laidL, List.foldl_cons, ← laidL, laid_cons]
    have hset : ∀ j, j < (S.set x.1 x.2).length → (S.set x.1 x.2).getD j ByteArray.empty = (fun i => if i = x.1 then x.2 else f i) j := by
      intro j hj
      rw [List.length_set] at hj
      show _ = if j = x.1 then x.2 else f j
      by_cases e : j = x.1
      · subst e
        rw [if_pos rfl, List.getD_eq_getElem?_getD, List.getElem?_set_self hj]
        rfl
      · rw [if_neg e, List.getD_eq_getElem?_getD, List.getElem?_set_ne (fun y => e y.symm), ← List.getD_eq_getElem?_getD]
        exact hall j hj
    exact ih _ _ (fun y hy => by rw [List.length_set]; exact hx y (by simp [hy])) i (by rw [List.length_set]; exact hi) (hset i (by rw [List.length_set]; exact hi)) hset
theorem laidL_snoc (S : List ByteArray) (l : Puts) (k : Nat) (h : k < l.length) : laidL S (l.take (k + 1)) = (laidL S (l.take k)).set l[k].1 l[k].2 := by
  rw [List.take_succ_eq_append_getElem h, laidL, List.foldl_append]
  rfl
structure LdI (W : World) (L : List ByteArray) (g cap : Nat) (wr : World) : Prop where
  row : wr.ownsRow 0 9 1 (.slice (some ⟨g, 0, none⟩) L.length cap) L.length (sv L)
  ge : W.heap.size ≤ g
  below : Below W.heap.size W wr
theorem LdI.drew {g cap : Nat} (h : LdI W L g cap wr) : LdI W L g cap wr.drew := ⟨h.row, h.ge, h.below.drew⟩
theorem sv_set (L : List ByteArray) (i : Nat) (b : ByteArray) : (sv L).set i (.string b) = sv (L.set i b) := by simp [sv, List.map_set]
theorem LdI.set {g cap : Nat} (h : LdI W L g cap wr) (i : Nat) (b : ByteArray) : LdI W (L.set i b) g cap (wr.setCell ⟨g, i, none⟩ (.string b)) := by
  refine ⟨?_, h.ge, h.below.setCell h.ge _⟩
  have := ownsRow_set h.row i (.string b)
  rw [sv_set] at this
  rw [List.length_set]
  exact this
theorem LdI.fz {g cap : Nat} (h : LdI W L g cap wr) (i : Nat) (hi : i < L.length) : wr.frozen? ⟨g, i, none⟩ = false ∧ ∃ u, wr.cell? ⟨g, i, none⟩ = some u := by
  obtain ⟨cur, hb⟩ := ownsRow_type h.row rfl
  exact ⟨fz_of hb i, _, ownsRow_cell h.row rfl (by simp [sv, hi] : (sv L)[i]? = some (.string L[i]))⟩


set_option maxHeartbeats 4000000 in
theorem rcommit_any {Y : Nat → Prop} {va : Value} {S : List ByteArray} (l : Puts) (h : RtA W rb va (zP l) mx false) (ha : TxAt W va S Y) (hS : 0 < S.length) (hS2 : S.length ≤ 4096) (hll : l.length ≤ 4096) (hx : ∀ x ∈ l, x.1 < S.length) :
    Calls Tryz.prog 18 #[.pointer (some ⟨rb, 0, none⟩)] W fun e W' => ∃ g cap, e = .returned (.slice (some ⟨g, 0, none⟩) S.length cap) ∧ W'.ownsRow 0 9 1 (.slice (some ⟨g, 0, none⟩) (laidL S l).length cap) (laidL S l).length (sv (laidL S l)) ∧ W.heap.size ≤ g ∧ Fr (fun k => k = rb) W W' := by
  obtain ⟨i0, ii, hz0, hz1, hz2⟩ := infoStr
  obtain ⟨pv, ho, hrw⟩ := h.obj
  have hrb := blk_lt ho
  obtain ⟨ao, cap, rfl, hca⟩ := ha
  obtain ⟨ga, rfl, -, hga, hc1⟩ := hca hS
  rw [zP_length, wcells_zP] at hrw
  obtain ⟨lo, lcap, rfl, hval⟩ : ∃ lo lcap, pv = .slice lo l.length lcap ∧ (0 < l.length → ∃ b, lo = some ⟨b, 0, none⟩ ∧ b < W.heap.size ∧ ∀ i (hi : i < l.length), W.cell? ⟨b, i * 2, none⟩ = some (.int .i64 (l[i].1 : Int)) ∧ W.cell? ⟨b, i * 2 + 1, none⟩ = some (.string l[i].2)) := by
    rcases hrw.2 with ⟨rfl, h0⟩ | ⟨g, c, cur, rfl, _, hgb, _⟩
    · exact ⟨none, 0, by rw [h0], fun hp => by omega⟩
    · exact ⟨_, _, rfl, fun hp => ⟨g, rfl, blk_lt hgb, fun i hi => ⟨ownsRow_cell hrw rfl (pcells_at l i hi).1, ownsRow_cell hrw rfl (pcells_at l i hi).2⟩⟩⟩
  have o0 := cl_of ho 0
  have o1 := cl_of ho 1
  have o3 := cl_of ho 3
  have f3 := fz_of ho 3
  have HV := Lib.hid hval
  have hnews : ∀ j u, (sv S)[j]? = some u → W.cell? (Addr.add ⟨ga, 0, none⟩ j) = some u := by
    intro j u hj
    have hjl : j < S.length := by
      rcases Nat.lt_or_ge j S.length with h | h
      · exact h
      · rw [List.getElem?_eq_none (by simpa [sv] using h)] at hj; cases hj
    have : u = .string (S.getD j ByteArray.empty) := by
      simp [sv, hjl] at hj
      rw [← hj]
      simp [List.getD_eq_getElem?_getD, hjl]
    rw [this, Addr.add_lit, Nat.zero_add]
    exact hc1 j hjl
  have hone : ∀ u ∈ sv S, u.oneCell' = true := by
    intro u hu
    obtain ⟨b, _, rfl⟩ := List.mem_map.1 hu
    rfl
  have h63 : 0 + S.length ≤ maxLen := by unfold maxLen; omega
  have hby : (0 + S.length) * 16 ≤ 140737488355328 := by omega
  have hsl : (sv S).length = S.length * 1 := by simp [sv]
  clear hca hval h hrw ho
  go_enter Tryz.func18, Tryz.ntmps18
  go_wp2_with (at_builtin; refine wpList_append_own _ rfl _ _ 33 rfl W.heap.size 9 i0 (.string ByteArray.empty) 1 16 Tryz.underlying33 ii hz0 hz1 hz2 rfl (by decide) _ 0 [] rfl (World.ownsRow_nil _ _ _ _) ⟨ga, 0, none⟩ S.length cap (sv S) rfl hsl hnews hone h63 hby (Nat.le_refl _) ?_; intro v' w5 hown' hgrow _)
  rw [Nat.zero_add, List.nil_append] at hown'
  obtain ⟨g, gcap, rfl, hst⟩ : ∃ g gcap, v' = .slice (some ⟨g, 0, none⟩) S.length gcap ∧ LdI W S g gcap w5 := by
    rcases hown'.2 with ⟨rfl, h0⟩ | ⟨g, c, cur, rfl, h0, hh, hr⟩
    · omega
    · exact ⟨g, c, rfl, ownsRow_base hown', h0, (Below.refl _ _).grown hgrow (Nat.le_refl _) (fun k e => by cases e)⟩
  have HST := Lib.hid hst
  clear hown' hgrow hst hnews hone h63 hby hsl hc1
  go_wp2_with fail
  go_loopw [4] (fun v4 wr => ∃ k : Nat, k ≤ l.length ∧ v4 = .int .i64 k ∧ LdI W (laidL S (l.take k)) g gcap wr) (fun v4 _ => l.length - (intOf v4).toNat)
  case atStart => exact ⟨0, Nat.zero_le _, rfl, HST.out⟩
  case round =>
    obtain ⟨k, hk, rfl, hI⟩ := hrel
    have r1 := (hI.below.cell (p := ⟨rb, 1, none⟩) hrb).trans o1
    by_cases hlt : k < l.length
    · obtain ⟨b, rfl, hbl, hc⟩ := HV.out (by omega)
      obtain ⟨c0, c1⟩ := hc k hlt
      have d0 := (hI.below.cell (p := ⟨b, k * 2, none⟩) hbl).trans c0
      have d1 := (hI.below.cell (p := ⟨b, k * 2 + 1, none⟩) hbl).trans c1
      have hsn := laidL_snoc S l k hlt
      have HSN := Lib.hid hsn
      have hxk := hx l[k] (List.getElem_mem hlt)
      have hlen := laidL_length (l.take k) S
      generalize laidL S (l.take k) = L at *
      generalize l[k] = x at *
      obtain ⟨i, dat⟩ := x
      dsimp only at d0 d1 hxk HSN
      obtain ⟨fz, u, hu⟩ := hI.fz i (by omega)
      have HI := Lib.hid (hI.set i dat)
      have hgb : g ≠ b := by have := hI.ge; omega
      have hgr : g ≠ rb := by have := hI.ge; omega
      have HG := hI.ge
      clear hsn hc c0 c1 hI hlen
      go_wp2_with fail
      go_region
      all_goals
        go_wp2_with fail
        go_roundw
        case rel => exact ⟨k + 1, by omega, by go_num, by rw [HSN.out]; exact HI.out.drew⟩
        case measure => simp [intOf]; omega
    · obtain rfl : k = l.length := by omega
      rw [List.take_of_length_le (Nat.le_refl _)] at hI
      have r3 := (hI.below.cell (p := ⟨rb, 3, none⟩) hrb).trans o3
      have rf3 := (hI.below.frozen (p := ⟨rb, 3, none⟩) hrb).trans f3
      have HI := Lib.hid hI
      clear hI
      go_wp2_with fail
      go_ret
      have hge := HI.out.ge
      refine ⟨_, _, rfl, ownsRow_of_block HI.out.row (fun k e => Below.heap_setCell wr ⟨rb, 3, none⟩ _ k (fun e2 => ?_)), hge, Fr.setCell (S := fun k => k = rb) (Fr.of_below HI.out.below) ⟨rb, 3, none⟩ (.inr rfl) _⟩
      cases e
      have : g = rb := e2
      omega
end
end Go.Proofs.YtjjphcnoegaimaaGreat
