/- The law CrcLinear: registers and texts go through each other bit by bit. -/
import Derived.Test.YtgipenibjmijoaaCrcLaws
import Derived.Test.YtgipenibjmijoaaCrcBursts
import Derived.Deep.RegionHeld3
namespace Go.Proofs.Ytgipenibjmijoaa
open Go.RowKit

/-- The text by which is turned, cut to n. -/
def turnAt (by_ : List UInt8) (i : Nat) : UInt8 := if by_.length = 0 then 0 else by_.getD (i % by_.length) 0
def turnK (by_ : List UInt8) (n k : Nat) : List UInt8 := (List.range n).map fun i => if i < k then turnAt by_ i else 0
def turnedK (l by_ : List UInt8) (n k : Nat) : List UInt8 := (List.range n).map fun i => if i < k then l.getD i 0 ^^^ turnAt by_ i else 0
theorem turnK_length (by_ : List UInt8) (n k : Nat) : (turnK by_ n k).length = n := by simp [turnK]
theorem turnedK_length (l by_ : List UInt8) (n k : Nat) : (turnedK l by_ n k).length = n := by simp [turnedK]
theorem turnK_set {by_ : List UInt8} {n k : Nat} : (turnK by_ n k).set k (turnAt by_ k) = turnK by_ n (k + 1) := by
  apply List.ext_getElem
  · simp [turnK]
  · intro i h1 h2
    simp only [turnK, List.getElem_map, List.getElem_range, List.getElem_set, List.length_map, List.length_range] at h1 h2 ⊢
    by_cases h : k = i
    · subst h; simp
    · simp [h, show (i < k + 1) = (i < k) by apply propext; omega]
theorem turnK_none {by_ : List UInt8} {n k : Nat} (h : by_.length = 0) : turnK by_ n k = turnK by_ n (k + 1) := by
  unfold turnK turnAt
  simp [h]
theorem turnedK_set {l by_ : List UInt8} {n k : Nat} : (turnedK l by_ n k).set k (l.getD k 0 ^^^ turnAt by_ k) = turnedK l by_ n (k + 1) := by
  apply List.ext_getElem
  · simp [turnedK]
  · intro i h1 h2
    simp only [turnedK, List.getElem_map, List.getElem_range, List.getElem_set, List.length_map, List.length_range] at h1 h2 ⊢
    by_cases h : k = i
    · subst h; simp
    · simp [h, show (i < k + 1) = (i < k) by apply propext; omega]
theorem turnK_get {by_ : List UInt8} {n k i : Nat} (h : i < (turnK by_ n k).length) (hi : i < k) : (turnK by_ n k)[i] = turnAt by_ i := by
  simp [turnK, hi]
theorem zipx_length (l : List UInt8) : ∀ m, l.length = m.length → (zipx l m).length = l.length := by
  induction l with
  | nil => intro m _; rfl
  | cons a l ih =>
    intro m h
    cases m with
    | nil => simp at h
    | cons b m => simp [zipx, ih m (by simpa using h)]
theorem zipx_get (l : List UInt8) : ∀ m (i : Nat) (h : i < (zipx l m).length) (h1 : i < l.length) (h2 : i < m.length), (zipx l m)[i] = l[i] ^^^ m[i] := by
  induction l with
  | nil => intro m i h; simp [zipx] at h
  | cons a l ih =>
    intro m i h h1 h2
    cases m with
    | nil => simp at h2
    | cons b m =>
      cases i with
      | zero => rfl
      | succ i => exact ih m i (by simpa [zipx] using h) (by simpa using h1) (by simpa using h2)
theorem turnedK_all (l by_ : List UInt8) : turnedK l by_ l.length l.length = zipx l (turnK by_ l.length l.length) := by
  apply List.ext_getElem
  · rw [turnedK_length, zipx_length _ _ (turnK_length ..).symm]
  · intro i h1 h2
    have hi : i < l.length := by rw [turnedK_length] at h1; exact h1
    rw [zipx_get _ _ _ h2 hi (by rw [turnK_length]; exact hi), turnK_get _ hi]
    simp [turnedK, hi]
theorem turnK_zero (by_ : List UInt8) (n : Nat) : turnK by_ n 0 = List.replicate n 0 := by
  apply List.ext_getElem <;> simp [turnK]
theorem turnedK_zero (l by_ : List UInt8) (n : Nat) : turnedK l by_ n 0 = List.replicate n 0 := by
  apply List.ext_getElem <;> simp [turnedK]
theorem made_zero (n : Nat) : madeCells #[Value.int .u8 0] n = bc (List.replicate n 0) := by
  have := made_bytes n 0
  rw [this]
  simp [numK, bytesLE]
theorem BB_new (w : World) (l : List UInt8) (t : TypeId) : BB (w.alloc (.cells (bc l) t)) w.heap.size l := by
  intro i hi
  exact ⟨(cl_of (hp_new w _ rfl) i).trans (bc_get hi), fz_of (hp_new w _ rfl) i⟩
theorem BB.below {W W' : World} {b B : Nat} {l : List UInt8} (h : BB W b l) (hB : Below B W W') (hb : b < B) : BB W' b l := by
  intro i hi
  obtain ⟨h1, h2⟩ := h i hi
  exact ⟨(hB.cell (p := ⟨b, i, none⟩) hb).trans h1, (hB.frozen (p := ⟨b, i, none⟩) hb).trans h2⟩
theorem BB.other {W : World} {b : Nat} {l : List UInt8} (h : BB W b l) (c i : Nat) (v : Value) (hc : c ≠ b) : BB (W.setCell ⟨c, i, none⟩ v) b l := by
  intro j hj
  obtain ⟨h1, h2⟩ := h j hj
  exact ⟨(World.cell?_setCell_other _ _ _ _ (fun e => hc (congrArg Addr.block e))).trans h1, by rw [World.frozen?_setCell]; exact h2⟩
theorem BB.drew {W : World} {b : Nat} {l : List UInt8} (h : BB W b l) : BB W.drew b l := h

theorem bs_get (l : List UInt8) (k : Nat) (h : k < (bs l).size) : (bs l)[k] = l[k]'(by rw [bs_size] at h; exact h) := by
  rfl
theorem linear_step {w wr : World} {l y : List UInt8} {k : Nat} (hlt : k < l.length) {v : UInt8} (hg : v = l[k]) (ht : BB wr w.heap.size (turnK y l.length (k + 1))) (hu : BB wr (w.heap.size + 1) (turnedK l y l.length k)) (hB : Below w.heap.size w wr) (hsz : w.heap.size + 1 < wr.heap.size) :
    ∃ k_1, k_1 ≤ l.length ∧ Value.int .i64 ((k : Int) + 1) = .int .i64 k_1 ∧
      BB (wr.setCell ⟨w.heap.size + 1, k, none⟩ (.int .u8 (bits .xor .u8 (v.toNat : Int) ((turnAt y k).toNat : Int)))).drew w.heap.size (turnK y l.length k_1) ∧
      BB (wr.setCell ⟨w.heap.size + 1, k, none⟩ (.int .u8 (bits .xor .u8 (v.toNat : Int) ((turnAt y k).toNat : Int)))).drew (w.heap.size + 1) (turnedK l y l.length k_1) ∧
      Below w.heap.size w (wr.setCell ⟨w.heap.size + 1, k, none⟩ (.int .u8 (bits .xor .u8 (v.toNat : Int) ((turnAt y k).toNat : Int)))).drew ∧ w.heap.size + 1 < (wr.setCell ⟨w.heap.size + 1, k, none⟩ (.int .u8 (bits .xor .u8 (v.toNat : Int) ((turnAt y k).toNat : Int)))).drew.heap.size := by
  have e : (bits .xor .u8 (v.toNat : Int) ((turnAt y k).toNat : Int)) = (((v ^^^ turnAt y k).toNat : Nat) : Int) := by
    rw [u8_xor_nat _ _ v.toNat_lt (turnAt y k).toNat_lt, UInt8.toNat_xor]
  rw [e]
  refine ⟨k + 1, by omega, by go_num, (ht.other _ _ _ (by omega)).drew, ?_, (hB.setCell (p := ⟨w.heap.size + 1, k, none⟩) (by simp) _).drew, by simpa [World.setCell] using hsz⟩
  rw [← turnedK_set]
  have := hu.set (i := k) (by rw [turnedK_length]; exact hlt) (l.getD k 0 ^^^ turnAt y k)
  rw [List.getD_eq_getElem?_getD, List.getElem?_eq_getElem hlt] at this ⊢
  rw [hg]
  exact this.drew

/-- What holds of every world behind the loop. -/
structure LinInv (w : World) (l y : List UInt8) (W : World) : Prop where
  t : BB W w.heap.size (turnK y l.length l.length)
  u : BB W (w.heap.size + 1) (turnedK l y l.length l.length)
  b : Below w.heap.size w W
  s : w.heap.size + 1 < W.heap.size

theorem LinInv.drew {w W : World} {l y : List UInt8} (h : LinInv w l y W) : LinInv w l y W.drew := ⟨h.t, h.u, h.b.drew, h.s⟩
theorem LinInv.step {w W W' : World} {l y : List UInt8} (h : LinInv w l y W) (hB : Below W.heap.size W W') : LinInv w l y W' :=
  ⟨h.t.below hB (by have := h.s; omega), h.u.below hB h.s, h.b.trans (hB.mono h.b.size), Nat.lt_of_lt_of_le h.s hB.size⟩
theorem lin_conv1 {w : World} {l y : List UInt8} (W : World) (h : LinInv w l y W) :
    (convert 34 9 (.slice (some ⟨w.heap.size, 0, none⟩) l.length l.length)).run Try.prog W = .ok (.string (bs (turnK y l.length l.length))) W := by
  have := run_convert_bytes_back (P := Try.prog) W 34 9 5 ⟨w.heap.size, 0, none⟩ l.length (turnK y l.length l.length) Try.underlying34 Try.underlying5 Try.underlying9 (fun j hj => by
    rw [Addr.add_lit, Nat.zero_add]; exact (h.t j hj).1)
  rw [turnK_length] at this
  exact this
theorem lin_conv2 {w : World} {l y : List UInt8} (W : World) (h : LinInv w l y W) :
    (convert 34 9 (.slice (some ⟨w.heap.size + 1, 0, none⟩) l.length l.length)).run Try.prog W = .ok (.string (bs (turnedK l y l.length l.length))) W := by
  have := run_convert_bytes_back (P := Try.prog) W 34 9 5 ⟨w.heap.size + 1, 0, none⟩ l.length (turnedK l y l.length l.length) Try.underlying34 Try.underlying5 Try.underlying9 (fun j hj => by
    rw [Addr.add_lit, Nat.zero_add]; exact (h.u j hj).1)
  rw [turnedK_length] at this
  exact this
theorem lin_fin (a0 a1 : Int) (c0 : 0 ≤ a0) (c1 : a0 < 4294967296) (d0 : 0 ≤ a1) (d1 : a1 < 4294967296) (l t : List UInt8) (ht : l.length = t.length) :
    ∃ X : Nat, bits .xor .u32 a0 a1 = (X : Int) ∧ X < 4294967296 ∧ bits .xor .u32 ((more a0.toNat l : Nat) : Int) ((more a1.toNat t : Nat) : Int) = ((more X (zipx l t) : Nat) : Int) := by
  obtain ⟨x, rfl⟩ := Int.eq_ofNat_of_zero_le c0
  obtain ⟨z, rfl⟩ := Int.eq_ofNat_of_zero_le d0
  refine ⟨x ^^^ z, u32_xor_nat x z (by omega) (by omega), Nat.xor_lt_two_pow (n := 32) (by omega) (by omega), ?_⟩
  rw [more_zipx l t x z ht]
  exact u32_xor_nat _ _ (more_lt l (by omega)) (more_lt t (by omega))

set_option maxRecDepth 100000 in
set_option maxHeartbeats 2000000 in
theorem linear_walk (a0 a1 : Int) (a2 a3 : ByteArray) (w0 : (Lit.int .u32 a0).wf = true) (w1 : (Lit.int .u32 a1).wf = true) (w2 : a2.size ≤ 140737488351232) (w3 : a3.size ≤ 140737488351232) (w : World) :
    Calls Try.prog 6 #[.int .u32 a0, .int .u32 a1, .string a2, .string a3] w fun e w' => e = .returned (.bool true) ∧ Below w.heap.size w w' := by
  obtain ⟨l, rfl⟩ : ∃ l, a2 = bs l := ⟨_, (bs_of a2).symm⟩
  obtain ⟨y, rfl⟩ : ∃ l, a3 = bs l := ⟨_, (bs_of a3).symm⟩
  obtain ⟨c0, c1⟩ := wf_u32 w0
  obtain ⟨d0, d1⟩ := wf_u32 w1
  clear w0 w1
  rw [bs_size] at w2 w3
  have s1 := bs_size l
  have s2 := bs_size y
  by_cases hlong : 4096 < l.length
  · go_enter Try.func6, Try.ntmps6
    go_wp2_with fail
    refine (alive_any _).mono ?_
    rintro e w1 ⟨rfl, hB⟩
    go_wp2_with fail
    go_ret
    exact ⟨rfl, hB⟩
  · have hmk := run_make_row' (P := Try.prog) 34 5 (.int .u8 0) 1 Try.underlying34 Try.infoU8 rfl .i64 .i64 l.length (by omega) (by omega)
    rw [made_zero] at hmk
    go_enter Try.func6, Try.ntmps6
    go_wp2_with fail
    clear hmk
    go_loopw [11] (fun v wr => ∃ k : Nat, k ≤ l.length ∧ v = .int .i64 k ∧ BB wr w.heap.size (turnK y l.length k) ∧ BB wr (w.heap.size + 1) (turnedK l y l.length k) ∧ Below w.heap.size w wr ∧ w.heap.size + 1 < wr.heap.size) (fun v _ => l.length - (intOf v).toNat)
    case atStart =>
      refine ⟨0, by omega, rfl, ?_, ?_, ((Below.refl _ w).alloc (Nat.le_refl _) _).alloc (by simp) _, by simp⟩
      · rw [turnK_zero]
        exact (BB_new w _ _).below ((Below.refl (w.heap.size + 1) _).alloc (by simp) _) (by omega)
      · rw [turnedK_zero]
        have := BB_new (w.alloc (.cells (bc (List.replicate l.length 0)) 5)) (List.replicate l.length 0) 5
        rw [World.size_alloc] at this
        exact this
    case round =>
      obtain ⟨k, hk, rfl, ht, hu, hB, hsz⟩ := hrel
      by_cases hlt : k < l.length
      · have hcl : (turnedK l y l.length k).length = l.length := turnedK_length ..
        have hct : (turnK y l.length k).length = l.length := turnK_length ..
        have hkl : k < (bs l).size := by rw [bs_size]; exact hlt
        have hgl := bs_get l k hkl
        by_cases hy : y.length = 0
        · rw [turnK_none hy] at ht hct
          have ht0 := (ht k (by omega)).1
          have hu0 := (hu k (by omega)).1
          have hu1 := (hu k (by omega)).2
          rw [turnK_get (by omega) (by omega)] at ht0
          go_wp2_with fail
          go_region
          all_goals go_wp2_with fail
          all_goals go_roundw
          case rel => exact linear_step hlt hgl ht hu hB hsz
          case measure => simp [intOf]; omega
        · have hmod : k % y.length < y.length := Nat.mod_lt _ (by omega)
          have ht0 := (ht k (by omega)).1
          have ht1 := (ht k (by omega)).2
          go_wp2_with fail
          obtain ⟨W1, hW1, ht', hu', hB', hsz'⟩ : ∃ W1, wr.setCell ⟨w.heap.size, k, none⟩ (.int .u8 ((bs y)[k % y.length]'(by rw [bs_size]; exact hmod)).toNat) = W1 ∧ BB W1 w.heap.size (turnK y l.length (k + 1)) ∧ BB W1 (w.heap.size + 1) (turnedK l y l.length k) ∧ Below w.heap.size w W1 ∧ w.heap.size + 1 < W1.heap.size := by
            refine ⟨_, rfl, ?_, hu.other _ _ _ (by omega), hB.setCell (p := ⟨w.heap.size, k, none⟩) (Nat.le_refl _) _, by simpa [World.setCell] using hsz⟩
            rw [bs_get, ← turnK_set]
            have := ht.set (i := k) (by omega) (turnAt y k)
            rw [turnAt, if_neg hy, List.getD_eq_getElem?_getD, List.getElem?_eq_getElem hmod] at this
            rw [turnAt, if_neg hy, List.getD_eq_getElem?_getD, List.getElem?_eq_getElem hmod]
            exact this
          rw [hW1]
          clear ht0 ht1 hW1 ht hu hB hsz
          have hct' : (turnK y l.length (k + 1)).length = l.length := turnK_length ..
          have ht0 := (ht' k (by omega)).1
          have hu0 := (hu' k (by omega)).1
          have hu1 := (hu' k (by omega)).2
          rw [turnK_get (by omega) (by omega)] at ht0
          go_region
          all_goals go_wp2_with fail
          all_goals go_roundw
          case rel => exact linear_step hlt hgl ht' hu' hB' hsz'
          case measure => simp [intOf]; omega
      · obtain rfl : k = l.length := by omega
        have hI : LinInv w l y wr := ⟨ht, hu, hB, hsz⟩
        have hc1 := lin_conv1 (w := w) (l := l) (y := y)
        have hc2 := lin_conv2 (w := w) (l := l) (y := y)
        obtain ⟨X, hX, hXl, hfin⟩ := lin_fin a0 a1 c0 c1 d0 d1 l (turnK y l.length l.length) (turnK_length ..).symm
        rw [← turnedK_all] at hfin
        have z1 : (bs l).size ≤ maxLen := by rw [bs_size]; unfold maxLen; omega
        have z2 : (bs (turnK y l.length l.length)).size ≤ maxLen := by rw [bs_size, turnK_length]; unfold maxLen; omega
        have z3 : (bs (turnedK l y l.length l.length)).size ≤ maxLen := by rw [bs_size, turnedK_length]; unfold maxLen; omega
        have Z1 := Lib.hid z1
        have Z2 := Lib.hid z2
        have Z3 := Lib.hid z3
        clear ht hu hB z1 z2 z3
        go_wp2_with fail
        go_region_held3 (fun W => LinInv w l y W) (first | assumption | exact LinInv.drew (by assumption)) (first | (go_at_call 10; refine (more_go _ (by omega) (by omega) _ (by first | exact Z1.out | exact Z2.out | exact Z3.out) _).mono ?_; (simp only [bs_data, Int.toNat_natCast]); rintro e w' ⟨rfl, hB'⟩; have hI' := LinInv.step (by assumption) hB') | (go_at_call 7; refine (alive_any _).mono ?_; rintro e w' ⟨rfl, hB'⟩; have hI' := LinInv.step (by assumption) hB'))
        go_wp2_with fail
        go_ret
        exact ⟨rfl, LinInv.b (l := l) (y := y) (by assumption)⟩
end Go.Proofs.Ytgipenibjmijoaa
