/- Package journal: num, head, read, most, places; octet.Pad. -/
import Derived.Test.YtjjphcnoegaimaaJLaw
import Derived.Test.YtjjphcnoegaimaaSeal2
import Derived.Test.YtjjphcnoegaimaaOctGet
import Derived.Test.YtjjphcnoegaimaaZero
namespace Go.Proofs.Ytjjphcnoegaimaa
open Go.RowKit Go.Shelf
set_option maxRecDepth 20000

set_option maxHeartbeats 1000000 in
theorem pad_any' (l : List UInt8) (n : Nat) (h : l.length ≤ n) (hn : n ≤ 60000) (w : World) : Calls Try.prog 93 #[.string (bs l), .int .i64 n] w fun e w' => e = .returned (.tuple #[.string (bs (l ++ zerosL (n - l.length))), .int .i64 0]) ∧ Below w.heap.size w w' := by
  have hs := bs_size l
  have hrep : ∀ W : World, Calls Try.prog 59 #[.string ⟨#[0]⟩, .int .i64 ((n : Int) - (l.length : Int))] W fun e w' => e = .returned (.string (bs (zerosL (n - l.length)))) ∧ Below W.heap.size W w' := by
    intro W
    have := Try.strings_Repeat ⟨#[0]⟩ (n - l.length) W (by omega) (by show 1 * (n - l.length) ≤ _; omega)
    rw [show Lib.repeatL (⟨#[0]⟩ : ByteArray).data.toList (n - l.length) = List.replicate (n - l.length) 0 from repeat_zero (n - l.length)] at this
    rw [show (n : Int) - (l.length : Int) = ((n - l.length : Nat) : Int) by omega]
    exact this
  have HR := Lib.hid hrep
  have HA := bs_append l (zerosL (n - l.length))
  have hz : (bs (zerosL (n - l.length))).size = n - l.length := by rw [bs_size]; simp [zerosL]
  have d1 : decide ((n : Int) < 0) = false := decide_eq_false (by omega)
  have d2 : decide ((n : Int) > 65536) = false := decide_eq_false (by omega)
  have d3 : decide ((l.length : Int) > (n : Int)) = false := decide_eq_false (by omega)
  clear hrep
  go_enter Try.func93, Try.ntmps93
  go_wp2_with fail
  refine (HR.out w).mono ?_
  rintro e w1 ⟨rfl, hB⟩
  go_wp2_with fail
  go_ret2
  exact ⟨rfl, hB⟩
theorem pad64_any (l : List UInt8) (h : l.length ≤ 64) (w : World) : Calls Try.prog 93 #[.string (bs l), .int .i64 64] w fun e w' => e = .returned (.tuple #[.string (pad64 l), .int .i64 0]) ∧ Below w.heap.size w w' := pad_any' l 64 h (by decide) w
theorem pad64_full {b : ByteArray} (h : b.size = 64) : pad64 b.data.toList = b := by
  have hl : b.data.toList.length = 64 := h
  rw [pad64, hl]
  show bs (b.data.toList ++ []) = b
  rw [List.append_nil, bs_of]

set_option maxHeartbeats 400000 in
theorem jnum_any (v n : Int) (h0 : 0 ≤ v) (hv : v < 18446744073709551616) (hn : 0 ≤ n) (hn8 : n ≤ 8) (hfit : n = 8 ∨ v.toNat < 256 ^ n.toNat) (w : World) :
    Calls Try.prog 94 #[.int .u64 v, .int .i64 n] w fun e w' => e = .returned (.string (bs (bytesLE v.toNat n.toNat))) ∧ Below w.heap.size w w' := by
  have hc := num_any' v n h0 hv hn hn8 hfit w
  have HC := Lib.hid hc
  clear hc hfit
  go_enter Try.func94, Try.ntmps94
  go_wp2_with fail
  refine HC.out.mono ?_
  rintro e w1 ⟨rfl, hB⟩
  go_wp2_with fail
  go_ret
  exact ⟨rfl, hB⟩

set_option maxHeartbeats 1000000 in
theorem head_any (g c : Nat) (hg : g < 18446744073709551616) (hc : c < 65536) (w : World) : Calls Try.prog 96 #[.int .u64 g, .int .i64 c] w fun e w' => e = .returned (.string (headB g c)) ∧ Below w.heap.size w w' := by
  have h8 : ∀ W, Calls Try.prog 94 #[.int .u64 g, .int .i64 8] W fun e w' => e = .returned (.string (bs (bytesLE g 8))) ∧ Below W.heap.size W w' := fun W => jnum_any (g : Int) 8 (by omega) (by omega) (by decide) (by decide) (.inl rfl) W
  have h2 : ∀ W, Calls Try.prog 94 #[.int .u64 c, .int .i64 2] W fun e w' => e = .returned (.string (bs (bytesLE c 2))) ∧ Below W.heap.size W w' := fun W => jnum_any (c : Int) 2 (by omega) (by omega) (by decide) (by decide) (.inr (by show c < 65536; exact hc)) W
  have hs : ∀ W, Calls Try.prog 110 #[.string (bs (headT g c))] W fun e w' => e = .returned (.string (bs (sealed (headT g c)))) ∧ Below W.heap.size W w' := fun W => by
    have := seal_any (bs (headT g c)) (by rw [bs_size, headT_length]; decide) W
    rw [bs_data] at this
    exact this
  have hp : ∀ W, Calls Try.prog 93 #[.string (bs (sealed (headT g c))), .int .i64 64] W fun e w' => e = .returned (.tuple #[.string (headB g c), .int .i64 0]) ∧ Below W.heap.size W w' := fun W => pad64_any _ (by rw [sealed_length, headT_length]; decide) W
  have e1 : (⟨#[108, 117, 110, 106]⟩ : ByteArray) ++ bs (bytesLE g 8) = bs (magicL ++ bytesLE g 8) := bs_append magicL _
  have e2 : bs (magicL ++ bytesLE g 8) ++ bs (bytesLE c 2) = bs (headT g c) := bs_append _ _
  have z8 : (bs (bytesLE g 8)).size = 8 := by rw [bs_size, bytesLE_length]
  have z2 : (bs (bytesLE c 2)).size = 2 := by rw [bs_size, bytesLE_length]
  have z12 : (bs (magicL ++ bytesLE g 8)).size = 12 := by rw [bs_size]; simp [magicL, bytesLE_length]
  have hw : IntKind.u64.wrap (c : Int) = c := IntWalk.u64_in _ (by omega)
  have H8 := Lib.hid h8
  have H2 := Lib.hid h2
  have HS := Lib.hid hs
  have HP := Lib.hid hp
  clear h8 h2 hs hp
  go_enter Try.func96, Try.ntmps96
  go_wp2_with fail
  refine (H8.out _).mono ?_
  rintro e w1 ⟨rfl, hB1⟩
  go_wp2_with fail
  refine (H2.out _).mono ?_
  rintro e w2 ⟨rfl, hB2⟩
  go_wp2_with fail
  refine (HS.out _).mono ?_
  rintro e w3 ⟨rfl, hB3⟩
  go_wp2_with fail
  refine (HP.out _).mono ?_
  rintro e w4 ⟨rfl, hB4⟩
  go_wp2_with fail
  go_ret
  exact ⟨rfl, bt (bt (bt hB1 hB2) hB3) hB4⟩

theorem opened_unsl (l : List UInt8) (h : 4 ≤ l.length) : opened l = ((unsl l).1, if (unsl l).2 = true then 0 else 7) := by
  unfold opened unsl
  rw [if_neg (by omega)]
  by_cases hs : sealed (l.take (l.length - 4)) = l
  · rw [if_pos hs, if_pos hs]; rfl
  · rw [if_neg hs, if_neg hs]; rfl
theorem get_bs2 (l : List UInt8) (hl : l.length ≤ 8) (w : World) : Calls Try.prog 107 #[.string (bs l)] w fun e w' => e = .returned (.tuple #[.int .u64 (le l : Nat), .int .i64 0]) ∧ w = w' := by
  have := get_go (bs l) (by rw [bs_size]; exact hl) w
  rw [bs_data] at this
  exact this
set_option maxHeartbeats 2000000 in
theorem jread_any (b : ByteArray) (h : b.size = 64) (w : World) : Calls Try.prog 90 #[.string b] w fun e w' => e = .returned (.tuple #[.int .u64 ((readB b).1 : Nat), .int .i64 ((readB b).2 : Nat)]) ∧ Below w.heap.size w w' := by
  obtain ⟨L, hL⟩ : ∃ L, b.data.toList.take 18 = L := ⟨_, rfl⟩
  have hx : b.extract 0 18 = bs L := by
    rw [← hL, ← bs_take', bs_of]
  have hll : L.length = 18 := by
    have : b.data.toList.length = 64 := h
    rw [← hL, List.length_take, this]
    decide
  have ho : ∀ W, Calls Try.prog 106 #[.string (bs L)] W fun e w' => e = .returned (.tuple #[.string (bs (unsl L).1), .int .i64 (if (unsl L).2 = true then 0 else 7)]) ∧ Below W.heap.size W w' := fun W => by
    have := open_any L (by rw [hll]; decide) W
    rw [opened_unsl L (by omega)] at this
    exact this
  have hr : readB b = if (unsl L).2 = true ∧ (unsl L).1.take 4 = magicL then (le (((unsl L).1.take 12).drop 4), le ((unsl L).1.drop 12)) else (0, 0) := by rw [readB, hL]
  have hu : (unsl L).2 = true → (unsl L).1.length = 14 := by
    unfold unsl
    split
    · intro _
      simp [hll]
    · intro e; cases e
  rw [hr]
  generalize unsl L = u at *
  obtain ⟨T, o⟩ := u
  dsimp only at *
  clear hr hL hll
  cases o
  · have HO : Hid (∀ W, Calls Try.prog 106 #[.string (bs L)] W fun e w' => e = .returned (.tuple #[.string (bs T), .int .i64 7]) ∧ Below W.heap.size W w') := ho
    rw [if_neg (by rintro ⟨h, _⟩; cases h)]
    clear hu ho
    go_enter Try.func90, Try.ntmps90
    go_wp2_with fail
    refine (HO.out _).mono ?_
    rintro e w1 ⟨rfl, hB⟩
    go_wp2_with fail
    go_ret2
    exact ⟨rfl, hB⟩
  · have HO : Hid (∀ W, Calls Try.prog 106 #[.string (bs L)] W fun e w' => e = .returned (.tuple #[.string (bs T), .int .i64 0]) ∧ Below W.heap.size W w') := ho
    have ht : T.length = 14 := hu rfl
    have hz : (bs T).size = 14 := by rw [bs_size, ht]
    have x4 : (bs T).extract 0 4 = bs (T.take 4) := bs_take' T 4
    clear hu ho
    by_cases hm : T.take 4 = magicL
    · rw [if_pos ⟨rfl, hm⟩]
      have hq : ((bs (T.take 4)).toList == [108, 117, 110, 106]) = true := by rw [bs_toList', hm]; rfl
      have x12 : (bs T).extract 4 12 = bs ((T.take 12).drop 4) := bs_extract T 4 12
      have x14 : (bs T).extract 12 14 = bs (T.drop 12) := by
        rw [bs_extract, List.take_of_length_le (by omega)]
      have g1 : ∀ W, Calls Try.prog 107 #[.string (bs ((T.take 12).drop 4))] W fun e w' => e = .returned (.tuple #[.int .u64 (le ((T.take 12).drop 4) : Nat), .int .i64 0]) ∧ W = w' := fun W => get_bs2 _ (by simp; omega) W
      have g2 : ∀ W, Calls Try.prog 107 #[.string (bs (T.drop 12))] W fun e w' => e = .returned (.tuple #[.int .u64 (le (T.drop 12) : Nat), .int .i64 0]) ∧ W = w' := fun W => get_bs2 _ (by simp; omega) W
      have l2 := le_lt (T.drop 12)
      rw [show (T.drop 12).length = 2 by simp [ht]] at l2
      have hw : IntKind.i64.wrap ((le (T.drop 12) : Nat) : Int) = ((le (T.drop 12) : Nat) : Int) := IntWalk.i64_in _ (by omega)
      have G1 := Lib.hid g1
      have G2 := Lib.hid g2
      clear g1 g2 hm ht l2
      go_enter Try.func90, Try.ntmps90
      go_wp2_with fail
      refine (HO.out _).mono ?_
      rintro e w1 ⟨rfl, hB⟩
      go_wp2_with fail
      refine (G1.out _).mono ?_
      rintro e w2 ⟨rfl, rfl⟩
      go_wp2_with fail
      refine (G2.out _).mono ?_
      rintro e w2 ⟨rfl, rfl⟩
      go_wp2_with fail
      go_ret2
      exact ⟨rfl, hB⟩
    · rw [if_neg (by rintro ⟨_, h⟩; exact hm h)]
      have hq : ((bs (T.take 4)).toList == [108, 117, 110, 106]) = false := by
        rw [bs_toList']
        exact beq_false_of_ne hm
      clear hm ht
      go_enter Try.func90, Try.ntmps90
      go_wp2_with fail
      refine (HO.out _).mono ?_
      rintro e w1 ⟨rfl, hB⟩
      go_wp2_with fail
      go_ret2
      exact ⟨rfl, hB⟩

/-- The most of an area. -/
def IsMost (n m : Nat) : Prop := m + places m + 1 ≤ n ∧ n < (m + 1) + places (m + 1) + 1
theorem IsMost.uniq {n a b : Nat} (ha : IsMost n a) (hb : IsMost n b) : a = b := by
  obtain ⟨a1, a2⟩ := ha
  obtain ⟨b1, b2⟩ := hb
  unfold places at *
  omega
theorem div32 (k : Nat) : ((k : Int) + 32 - 1) / 32 = ((places k : Nat) : Int) := by unfold places; omega
set_option maxHeartbeats 1000000 in
theorem places_any (m : Nat) (hm : m ≤ 100000) (w : World) : Calls Try.prog 108 #[.int .i64 m] w fun e w' => e = .returned (.int .i64 (places m : Nat)) ∧ w = w' := by
  have hd := div32 m
  have HD := Lib.hid hd
  clear hd
  go_enter Try.func108, Try.ntmps108
  go_wp2_with fail
  go_ret
  exact ⟨by rw [← HD.out]; rfl, rfl⟩
set_option maxHeartbeats 1000000 in
theorem most_any (n m : Nat) (hn : n ≤ 100000) (hm : IsMost n m) (w : World) : Calls Try.prog 75 #[.int .i64 n] w fun e w' => e = .returned (.int .i64 m) ∧ w = w' := by
  have HM := Lib.hid hm
  have h1 : 1 ≤ n := by have := hm.1; omega
  clear hm
  go_enter Try.func75, Try.ntmps75
  go_wp2_with fail
  go_loop [3] (fun v3 => ∃ k : Nat, 1 ≤ k ∧ k ≤ n ∧ v3 = .int .i64 k ∧ Hid ((k - 1) + places (k - 1) + 1 ≤ n)) (fun v3 => n + 1 - (intOf v3).toNat)
  case atStart => exact ⟨1, Nat.le_refl _, h1, rfl, Lib.hid (by show 0 + 0 + 1 ≤ n; omega)⟩
  case round =>
    obtain ⟨k, hk1, hk, rfl, HK⟩ := hrel
    by_cases hlt : k + places k + 1 ≤ n
    · have dl : decide ((k : Int) + ((k : Int) + 32 - 1) / 32 + 1 ≤ (n : Int)) = true := decide_eq_true (by rw [div32]; omega)
      have HL := Lib.hid hlt
      have hk2 : k + 1 ≤ n := by omega
      clear hlt
      go_wp2_with fail
      go_round
      case rel => exact ⟨k + 1, by omega, by omega, by go_num, HL⟩
      case measure => simp [intOf]; omega
    · have dl : decide ((k : Int) + ((k : Int) + 32 - 1) / 32 + 1 ≤ (n : Int)) = false := decide_eq_false (by rw [div32]; omega)
      have hmk : m = k - 1 := IsMost.uniq HM.out ⟨HK.out, by rw [show k - 1 + 1 = k by omega]; omega⟩
      have HMK := Lib.hid hmk
      clear hlt hmk
      go_wp2_with fail
      go_ret
      exact ⟨by rw [HMK.out, show ((k - 1 : Nat) : Int) = (k : Int) - 1 by omega]; rfl, rfl⟩
end Go.Proofs.Ytjjphcnoegaimaa
