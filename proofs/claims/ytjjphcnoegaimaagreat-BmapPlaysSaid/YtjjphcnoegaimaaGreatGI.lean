/- Package journal: num, head, read, most, places; octet.Pad. octet.Split: a text in parts of 64 bytes. A journal on a device of a caller's own, as one predicate of a world; what the device does under it. -/
import Derived.Test.YtjjphcnoegaimaaGreatGH
import Derived.Test.YtjjphcnoegaimaaGreatSeal2
import Derived.Test.YtjjphcnoegaimaaGreatGF
import Derived.Deep.AppendLies
import Derived.Test.YtjjphcnoegaimaaGreatGG
namespace Go.Proofs.YtjjphcnoegaimaaGreat
open Go.RowKit Go.Shelf
set_option maxRecDepth 20000

set_option maxHeartbeats 1000000 in
theorem pad_any' (l : List UInt8) (n : Nat) (h : l.length ≤ n) (hn : n ≤ 60000) (w : World) : Calls Tryz.prog 106 #[.string (bs l), .int .i64 n] w fun e w' => e = .returned (.tuple #[.string (bs (l ++ zerosL (n - l.length))), .int .i64 0]) ∧ Below w.heap.size w w' := by
  have hs := bs_size l
  have hrep : ∀ W : World, Calls Tryz.prog 72 #[.string ⟨#[0]⟩, .int .i64 ((n : Int) - (l.length : Int))] W fun e w' => e = .returned (.string (bs (zerosL (n - l.length)))) ∧ Below W.heap.size W w' := by
    intro W
    have := Tryz.strings_Repeat ⟨#[0]⟩ (n - l.length) W (by omega) (by show 1 * (n - l.length) ≤ _; omega)
    rw [show Lib.repeatL (⟨#[0]⟩ : ByteArray).data.toList (n - l.length) = List.replicate (n - l.length) 0 from repeat_zero (n - l.length)] at this
    rw [show (n : Int) - (l.length : Int) = ((n - l.length : Nat) : Int) by omega]
    exact this
  have HR := Lib.hid hrep
  have HA := bs_append l (zerosL (n - l.length))
  have hz : (bs (zerosL (n - l.length))).size = n - l.length := by rw [bs_size]; simp [zerosL]
  have d1 : decide ((n : Int) < 0) = false := decide_eq_false (by omega)
  have d2 : decide ((n : Int) > 65536) = false := decide_eq_false (by omega)
  have d3 : decide ((l.length : Int) > (n : Int)) = false := decide_eq_false (by omega)
  clear hrep
  go_enter Tryz.func106, Tryz.ntmps106
  go_wp2_with fail
  refine (HR.out w).mono ?_
  rintro e w1 ⟨rfl, hB⟩
  go_wp2_with fail
  go_ret2
  exact ⟨rfl, hB⟩
theorem pad64_any (l : List UInt8) (h : l.length ≤ 64) (w : World) : Calls Tryz.prog 106 #[.string (bs l), .int .i64 64] w fun e w' => e = .returned (.tuple #[.string (pad64 l), .int .i64 0]) ∧ Below w.heap.size w w' := pad_any' l 64 h (by decide) w
theorem pad64_full {b : ByteArray} (h : b.size = 64) : pad64 b.data.toList = b := by
  have hl : b.data.toList.length = 64 := h
  rw [pad64, hl]
  show bs (b.data.toList ++ []) = b
  rw [List.append_nil, bs_of]

set_option maxHeartbeats 400000 in
theorem jnum_any (v n : Int) (h0 : 0 ≤ v) (hv : v < 18446744073709551616) (hn : 0 ≤ n) (hn8 : n ≤ 8) (hfit : n = 8 ∨ v.toNat < 256 ^ n.toNat) (w : World) :
    Calls Tryz.prog 108 #[.int .u64 v, .int .i64 n] w fun e w' => e = .returned (.string (bs (bytesLE v.toNat n.toNat))) ∧ Below w.heap.size w w' := by
  have hc := num_any' v n h0 hv hn hn8 hfit w
  have HC := Lib.hid hc
  clear hc hfit
  go_enter Tryz.func108, Tryz.ntmps108
  go_wp2_with fail
  refine HC.out.mono ?_
  rintro e w1 ⟨rfl, hB⟩
  go_wp2_with fail
  go_ret
  exact ⟨rfl, hB⟩

set_option maxHeartbeats 1000000 in
theorem head_any (g c : Nat) (hg : g < 18446744073709551616) (hc : c < 65536) (w : World) : Calls Tryz.prog 110 #[.int .u64 g, .int .i64 c] w fun e w' => e = .returned (.string (headB g c)) ∧ Below w.heap.size w w' := by
  have h8 : ∀ W, Calls Tryz.prog 108 #[.int .u64 g, .int .i64 8] W fun e w' => e = .returned (.string (bs (bytesLE g 8))) ∧ Below W.heap.size W w' := fun W => jnum_any (g : Int) 8 (by omega) (by omega) (by decide) (by decide) (.inl rfl) W
  have h2 : ∀ W, Calls Tryz.prog 108 #[.int .u64 c, .int .i64 2] W fun e w' => e = .returned (.string (bs (bytesLE c 2))) ∧ Below W.heap.size W w' := fun W => jnum_any (c : Int) 2 (by omega) (by omega) (by decide) (by decide) (.inr (by show c < 65536; exact hc)) W
  have hs : ∀ W, Calls Tryz.prog 133 #[.string (bs (headT g c))] W fun e w' => e = .returned (.string (bs (sealed (headT g c)))) ∧ Below W.heap.size W w' := fun W => by
    have := seal_any (bs (headT g c)) (by rw [bs_size, headT_length]; decide) W
    rw [bs_data] at this
    exact this
  have hp : ∀ W, Calls Tryz.prog 106 #[.string (bs (sealed (headT g c))), .int .i64 64] W fun e w' => e = .returned (.tuple #[.string (headB g c), .int .i64 0]) ∧ Below W.heap.size W w' := fun W => pad64_any _ (by rw [sealed_length, headT_length]; decide) W
  have e1 : (⟨#[108, 117, 110, 106]⟩ : ByteArray) ++ bs (bytesLE g 8) = bs (magicL ++ bytesLE g 8) := bs_append magicL _
  have e2 : bs (magicL ++ bytesLE g 8) ++ bs (bytesLE c 2) = bs (headT g c) := bs_append _ _
  have z8 : (bs (bytesLE g 8)).size = 8 := by rw [bs_size, bytesLE_length]
  have z2 : (bs (bytesLE c 2)).size = 2 := by rw [bs_size, bytesLE_length]
  have z12 : (bs (magicL ++ bytesLE g 8)).size = 12 := by rw [bs_size]; simp [magicL, bytesLE_length]
  have hw : IntKind.u64.wrap (c : Int) = c := IntWalk.u64_in _ (by omega)
  have H8 := Lib.hid h8
  have H2 := Lib.hid h2
  have HS := Lib.hid hs
  have HP := Lib.hid hp
  clear h8 h2 hs hp
  go_enter Tryz.func110, Tryz.ntmps110
  go_wp2_with fail
  refine (H8.out _).mono ?_
  rintro e w1 ⟨rfl, hB1⟩
  go_wp2_with fail
  refine (H2.out _).mono ?_
  rintro e w2 ⟨rfl, hB2⟩
  go_wp2_with fail
  refine (HS.out _).mono ?_
  rintro e w3 ⟨rfl, hB3⟩
  go_wp2_with fail
  refine (HP.out _).mono ?_
  rintro e w4 ⟨rfl, hB4⟩
  go_wp2_with fail
  go_ret
  exact ⟨rfl, bt (bt (bt hB1 hB2) hB3) hB4⟩

theorem opened_unsl (l : List UInt8) (h : 4 ≤ l.length) : opened l = ((unsl l).1, if (unsl l).2 = true then 0 else 7) := by
  unfold opened unsl
  rw [if_neg (by omega)]
  by_cases hs : sealed (l.take (l.length - 4)) = l
  · rw [if_pos hs, if_pos hs]; rfl
  · rw [if_neg hs, if_neg hs]; rfl
theorem get_bs2 (l : List UInt8) (hl : l.length ≤ 8) (w : World) : Calls Tryz.prog 113 #[.string (bs l)] w fun e w' => e = .returned (.tuple #[.int .u64 (le l : Nat), .int .i64 0]) ∧ w = w' := by
  have := get_go (bs l) (by rw [bs_size]; exact hl) w
  rw [bs_data] at this
  exact this
set_option maxHeartbeats 2000000 in
theorem jread_any (b : ByteArray) (h : b.size = 64) (w : World) : Calls Tryz.prog 85 #[.string b] w fun e w' => e = .returned (.tuple #[.int .u64 ((readB b).1 : Nat), .int .i64 ((readB b).2 : Nat)]) ∧ Below w.heap.size w w' := by
  obtain ⟨L, hL⟩ : ∃ L, b.data.toList.take 18 = L := ⟨_, rfl⟩
  have hx : b.extract 0 18 = bs L := by
    rw [← hL, ← bs_take', bs_of]
  have hll : L.length = 18 := by
    have : b.data.toList.length = 64 := h
    rw [← hL, List.length_take, this]
    decide
  have ho : ∀ W, Calls Tryz.prog 112 #[.string (bs L)] W fun e w' => e = .returned (.tuple #[.string (bs (unsl L).1), .int .i64 (if (unsl L).2 = true then 0 else 7)]) ∧ Below W.heap.size W w' := fun W => by
    have := open_any L (by rw [hll]; decide) W
    rw [opened_unsl L (by omega)] at this
    exact this
  have hr : readB b = if (unsl L).2 = true ∧ (unsl L).1.take 4 = magicL then (le (((unsl L).1.take 12).drop 4), le ((unsl L).1.drop 12)) else (0, 0) := by rw [readB, hL]
  have hu : (unsl L).2 = true → (unsl L).1.length = 14 := by
    unfold unsl
    split
    · intro _
      simp [hll]
    · intro e; cases e
  rw [hr]
  generalize unsl L = u at *
  obtain ⟨T, o⟩ := u
  dsimp only at *
  clear hr hL hll
  cases o
  · have HO : Hid (∀ W, Calls Tryz.prog 112 #[.string (bs L)] W fun e w' => e = .returned (.tuple #[.string (bs T), .int .i64 7]) ∧ Below W.heap.size W w') := ho
    rw [if_neg (by rintro ⟨h, _⟩; cases h)]
    clear hu ho
    go_enter Tryz.func85, Tryz.ntmps85
    go_wp2_with fail
    refine (HO.out _).mono ?_
    rintro e w1 ⟨rfl, hB⟩
    go_wp2_with fail
    go_ret2
    exact ⟨rfl, hB⟩
  · have HO : Hid (∀ W, Calls Tryz.prog 112 #[.string (bs L)] W fun e w' => e = .returned (.tuple #[.string (bs T), .int .i64 0]) ∧ Below W.heap.size W w') := ho
    have ht : T.length = 14 := hu rfl
    have hz : (bs T).size = 14 := by rw [bs_size, ht]
    have x4 : (bs T).extract 0 4 = bs (T.take 4) := bs_take' T 4
    clear hu ho
    by_cases hm : T.take 4 = magicL
    · rw [if_pos ⟨rfl, hm⟩]
      have hq : ((bs (T.take 4)).toList == [108, 117, 110, 106]) = true := by rw [bs_toList', hm]; rfl
      have x12 : (bs T).extract 4 12 = bs ((T.take 12).drop 4) := bs_extract T 4 12
      have x14 : (bs T).extract 12 14 = bs (T.drop 12) := by
        rw [bs_extract, List.take_of_length_le (by omega)]
      have g1 : ∀ W, Calls Tryz.prog 113 #[.string (bs ((T.take 12).drop 4))] W fun e w' => e = .returned (.tuple #[.int .u64 (le ((T.take 12).drop 4) : Nat), .int .i64 0]) ∧ W = w' := fun W => get_bs2 _ (by simp; omega) W
      have g2 : ∀ W, Calls Tryz.prog 113 #[.string (bs (T.drop 12))] W fun e w' => e = .returned (.tuple #[.int .u64 (le (T.drop 12) : Nat), .int .i64 0]) ∧ W = w' := fun W => get_bs2 _ (by simp; omega) W
      have l2 := le_lt (T.drop 12)
      rw [show (T.drop 12).length = 2 by simp [ht]] at l2
      have hw : IntKind.i64.wrap ((le (T.drop 12) : Nat) : Int) = ((le (T.drop 12) : Nat) : Int) := IntWalk.i64_in _ (by omega)
      have G1 := Lib.hid g1
      have G2 := Lib.hid g2
      clear g1 g2 hm ht l2
      go_enter Tryz.func85, Tryz.ntmps85
      go_wp2_with fail
      refine (HO.out _).mono ?_
      rintro e w1 ⟨rfl, hB⟩
      go_wp2_with fail
      refine (G1.out _).mono ?_
      rintro e w2 ⟨rfl, rfl⟩
      go_wp2_with fail
      refine (G2.out _).mono ?_
      rintro e w2 ⟨rfl, rfl⟩
      go_wp2_with fail
      go_ret2
      exact ⟨rfl, hB⟩
    · rw [if_neg (by rintro ⟨_, h⟩; exact hm h)]
      have hq : ((bs (T.take 4)).toList == [108, 117, 110, 106]) = false := by
        rw [bs_toList']
        exact beq_false_of_ne hm
      clear hm ht
      go_enter Tryz.func85, Tryz.ntmps85
      go_wp2_with fail
      refine (HO.out _).mono ?_
      rintro e w1 ⟨rfl, hB⟩
      go_wp2_with fail
      go_ret2
      exact ⟨rfl, hB⟩

/-- The most of an area. -/
def IsMost (n m : Nat) : Prop := m + places m + 1 ≤ n ∧ n < (m + 1) + places (m + 1) + 1
theorem IsMost.uniq {n a b : Nat} (ha : IsMost n a) (hb : IsMost n b) : a = b := by
  obtain ⟨a1, a2⟩ := ha
  obtain ⟨b1, b2⟩ := hb
  unfold places at *
  omega
theorem div32 (k : Nat) : ((k : Int) + 32 - 1) / 32 = ((places k : Nat) : Int) := by unfold places; omega
set_option maxHeartbeats 1000000 in
theorem places_any (m : Nat) (hm : m ≤ 100000) (w : World) : Calls Tryz.prog 114 #[.int .i64 m] w fun e w' => e = .returned (.int .i64 (places m : Nat)) ∧ w = w' := by
  have hd := div32 m
  have HD := Lib.hid hd
  clear hd
  go_enter Tryz.func114, Tryz.ntmps114
  go_wp2_with fail
  go_ret
  exact ⟨by rw [← HD.out]; rfl, rfl⟩
set_option maxHeartbeats 1000000 in
theorem most_any (n m : Nat) (hn : n ≤ 100000) (hm : IsMost n m) (w : World) : Calls Tryz.prog 43 #[.int .i64 n] w fun e w' => e = .returned (.int .i64 m) ∧ w = w' := by
  have HM := Lib.hid hm
  have h1 : 1 ≤ n := by have := hm.1; omega
  clear hm
  go_enter Tryz.func43, Tryz.ntmps43
  go_wp2_with fail
  go_loop [3] (fun v3 => ∃ k : Nat, 1 ≤ k ∧ k ≤ n ∧ v3 = .int .i64 k ∧ Hid ((k - 1) + places (k - 1) + 1 ≤ n)) (fun v3 => n + 1 - (intOf v3).toNat)
  case atStart => exact ⟨1, Nat.le_refl _, h1, rfl, Lib.hid (by show 0 + 0 + 1 ≤ n; omega)⟩
  case round =>
    obtain ⟨k, hk1, hk, rfl, HK⟩ := hrel
    by_cases hlt : k + places k + 1 ≤ n
    · have dl : decide ((k : Int) + ((k : Int) + 32 - 1) / 32 + 1 ≤ (n : Int)) = true := decide_eq_true (by rw [div32]; omega)
      have HL := Lib.hid hlt
      have hk2 : k + 1 ≤ n := by omega
      clear hlt
      go_wp2_with fail
      go_round
      case rel => exact ⟨k + 1, by omega, by omega, by go_num, HL⟩
      case measure => simp [intOf]; omega
    · have dl : decide ((k : Int) + ((k : Int) + 32 - 1) / 32 + 1 ≤ (n : Int)) = false := decide_eq_false (by rw [div32]; omega)
      have hmk : m = k - 1 := IsMost.uniq HM.out ⟨HK.out, by rw [show k - 1 + 1 = k by omega]; omega⟩
      have HMK := Lib.hid hmk
      clear hlt hmk
      go_wp2_with fail
      go_ret
      exact ⟨by rw [HMK.out, show ((k - 1 : Nat) : Int) = (k : Int) - 1 by omega]; rfl, rfl⟩
end Go.Proofs.YtjjphcnoegaimaaGreat

namespace Go.Proofs.YtjjphcnoegaimaaGreat
open Go.RowKit Go.Shelf
set_option maxRecDepth 20000

/-- A text's first parts. -/
def partsK (L : List UInt8) (k : Nat) : List ByteArray := (List.range k).map fun p => bs (partP L p)
theorem partsK_succ (L : List UInt8) (k : Nat) : partsK L (k + 1) = partsK L k ++ [bs (partP L k)] := by simp [partsK, List.range_succ]
theorem partsK_length (L : List UInt8) (k : Nat) : (partsK L k).length = k := by simp [partsK]
structure SpI (w : World) (L : List UInt8) (k : Nat) (v : Value) (W : World) : Prop where
  row : W.ownsRow w.heap.size 9 1 v k (sv (partsK L k))
  below : Below w.heap.size w W
theorem SpI.of {w W W' : World} {L : List UInt8} {k : Nat} {v : Value} (h : SpI w L k v W) (hB : Below W.heap.size W W') : SpI w L k v W' := by
  refine ⟨?_, bt h.below hB⟩
  obtain ⟨hl, hr⟩ := h.row
  refine ⟨hl, ?_⟩
  rcases hr with h' | ⟨g, cap, cur, rfl, h0, hh, hr⟩
  · exact .inl h'
  · exact .inr ⟨g, cap, cur, rfl, h0, (hB.block g (blk_lt hh)).trans hh, hr⟩
theorem SpI.step {w W W1 : World} {L : List UInt8} {k : Nat} {v v' : Value} (h : SpI w L k v W) (hown : W1.ownsRow w.heap.size 9 1 v' (k + 1) (sv (partsK L k) ++ [.string (bs (partP L k))])) (hg : W.grownBy W1 v.ownBlock) : SpI w L (k + 1) v' W1 := by
  refine ⟨?_, h.below.grown hg h.below.size (fun g e => ?_)⟩
  · rw [partsK_succ]
    have e : sv (partsK L k ++ [bs (partP L k)]) = sv (partsK L k) ++ [Value.string (bs (partP L k))] := by simp [sv]
    rw [e]
    exact hown
  · rcases h.row.2 with ⟨rfl, _⟩ | ⟨g', c, cur, rfl, h0, _⟩
    · cases e
    · cases e; exact h0

def strSize : Value → Nat
  | .string s => s.size
  | _ => 0
set_option maxHeartbeats 4000000 in
theorem split_any (L : List UInt8) (hL : L.length ≤ 10000) (w : World) : Calls Tryz.prog 109 #[.string (bs L), .int .i64 64] w fun e w' => ∃ v, e = .returned (.tuple #[v, .int .i64 0]) ∧ SpI w L ((L.length + 63) / 64) v w' := by
  obtain ⟨i0, ii, hz0, hz1, hz2⟩ := infoStr
  go_enter Tryz.func109, Tryz.ntmps109
  go_wp2_with fail
  go_loopw [0, 4, 6] (fun v0 v4 _ wr => ∃ k : Nat, 64 * k < L.length + 64 ∧ v0 = .string (bs (L.drop (64 * k))) ∧ SpI w L k v4 wr) (fun v0 _ _ _ => strSize v0)
  case atStart => exact ⟨0, by omega, rfl, World.ownsRow_nil _ _ _ _, Below.refl _ _⟩
  case round =>
    obtain ⟨k, hk, rfl, hI⟩ := hrel
    obtain ⟨r, hr⟩ : ∃ r, L.drop (64 * k) = r := ⟨_, rfl⟩
    have hrl : r.length = L.length - 64 * k := by rw [← hr]; simp
    rw [hr]
    by_cases hn : r = []
    · subst hn
      have e1 : (bs []).toList = [] := bs_toList' []
      have e2 : (bs []).toList.isEmpty = true := by rw [e1]; rfl
      have hkk : k = (L.length + 63) / 64 := by simp at hrl; omega
      have HK := Lib.hid hkk
      clear hkk hrl hr hk
      go_wp2_with fail
      go_ret2
      exact ⟨_, rfl, by rw [← HK.out]; exact hI⟩
    · have hpos : 0 < r.length := List.length_pos_iff.2 hn
      have e1 : (bs r).toList.isEmpty = false := by rw [bs_toList']; simpa using hn
      have hsz := bs_size r
      obtain ⟨q, hq⟩ : ∃ q : Nat, (min (64 : Int) (r.length : Int)) = (q : Int) := ⟨min 64 r.length, by omega⟩
      have hq1 : q ≤ r.length := by omega
      have hq0 : 0 < q := by omega
      have x1 : (bs r).extract 0 q = bs (partP L k) := by
        rw [bs_take', partP, hr]
        congr 1
        by_cases h : r.length ≤ 64
        · rw [List.take_of_length_le (by omega), List.take_of_length_le h]
        · rw [show q = 64 by omega]
      have x2 : (bs r).extract q r.length = bs (L.drop (64 * (k + 1))) := by
        rw [bs_extract, List.take_of_length_le (Nat.le_refl _)]
        congr 1
        rw [← hr, List.drop_drop]
        by_cases h : r.length ≤ 64
        · rw [List.drop_of_length_le (by omega), List.drop_of_length_le (by omega)]
        · congr 1
          omega
      have hone : ∀ u ∈ [Value.string (bs (partP L k))], u.oneCell' = true := by simp [Value.oneCell']
      have h63 : k + 1 ≤ maxLen := by unfold maxLen; omega
      have hby : (k + 1) * 16 ≤ 140737488355328 := by omega
      have hI2 := hI.of ((Below.refl wr.heap.size wr).drew)
      have HI3 := Lib.hid (hI2.of (bnew _ (.cells #[.string (bs (partP L k))] 9)))
      have HM : Hid ((bs (L.drop (64 * (k + 1)))).size < (bs r).size) := Lib.hid (by rw [bs_size, bs_size, List.length_drop, ← hr, List.length_drop]; omega)
      have HK : Hid (64 * (k + 1) < L.length + 64) := Lib.hid (by omega)
      have X1 := Lib.hid x1
      have X2 := Lib.hid x2
      have HR := Lib.hid hr
      clear hI hI2 hn hk hrl hr hL
      go_wp2_with fail
      go_region_law (first | ((refine step_append_lies _ (by rfl) (.tmp 15) (.tmp 19) 33 (by rfl) w.heap.size 9 i0 (.string ByteArray.empty) 1 16 Tryz.underlying33 ii hz0 hz1 hz2 (by rfl) (by decide) _ k (sv (partsK L k)) (by rfl) HI3.out.row ⟨_, 0, none⟩ 1 1 [.string (bs (partP L k))] (by rfl) (by rfl) (World.news_of_block (by first | exact hp_new _ _ rfl | exact hp_new _ _ (by simp))) hone (by decide) h63 hby (by have := HI3.out.below.size; exact this) _ rfl ?_); intro g cap w1 hown hgrow hlie hglt; have hst := Lib.hid (SpI.step HI3.out hown hgrow)))
      all_goals
        simp only [List.getElem_toArray, List.getElem_cons_succ, List.getElem_cons_zero, Act.put, List.setIfInBounds_toArray, List.set_cons_succ, List.set_cons_zero]
        go_wp2_with fail
        go_roundw
        case rel => exact ⟨k + 1, HK.out, rfl, hst.out⟩
        case measure => exact HM.out
end Go.Proofs.YtjjphcnoegaimaaGreat

namespace Go.Proofs.YtjjphcnoegaimaaGreat
open Go.RowKit Go.Shelf Go.Maps
set_option maxRecDepth 20000

/-- The caller's blocks, and what came in, lie as they lay. -/
def Kb (w0 : World) (X : Nat → Prop) (W W' : World) : Prop := ∀ k, (k < w0.heap.size ∨ X k) → W'.heap[k]? = W.heap[k]?
theorem Kb.t {w0 : World} {X : Nat → Prop} {A B C : World} (h : Kb w0 X A B) (k : Kb w0 X B C) : Kb w0 X A C := fun i hi => (k i hi).trans (h i hi)
theorem Kb.refl (w0 : World) (X : Nat → Prop) (W : World) : Kb w0 X W W := fun _ _ => rfl
theorem Kb.less {w0 : World} {X Y : Nat → Prop} {A B : World} (h : Kb w0 X A B) (hy : ∀ k, Y k → X k) : Kb w0 Y A B := fun i hi => h i (hi.imp id (hy i))
theorem Kb.cell {w0 : World} {X : Nat → Prop} {W W' : World} (h : Kb w0 X W W') {b : Nat} (hb : b < w0.heap.size ∨ X b) (j : Nat) : W'.cell? ⟨b, j, none⟩ = W.cell? ⟨b, j, none⟩ := World.cell?_of_block (w := W) (h b hb)
theorem Kb.of_below {w0 : World} {X : Nat → Prop} {W W' : World} (h : Below W.heap.size W W') (hx : ∀ k, (k < w0.heap.size ∨ X k) → k < W.heap.size) : Kb w0 X W W' := fun k hk => h.block k (hx k hk)
theorem DvO.old {w0 W : World} {X : Nat → Prop} {p : Nat} {s : DS} (h : DvO w0 X p s W) : ∀ k, (k < w0.heap.size ∨ X k) → k < W.heap.size := fun k hk => hk.elim (fun e => Nat.lt_of_lt_of_le e h.below.size) (h.lt k)
theorem DvO.kb {w0 W W' : World} {X : Nat → Prop} {p : Nat} {s s' : DS} (h : DvO w0 X p s W) (h' : DvO w0 X p s' W') (hk : KX X W W') : Kb w0 X W W' := fun k e => e.elim (fun e => (h'.below.block k e).trans (h.below.block k e).symm) (hk k)
theorem DvO.kbelow {w0 W W' : World} {X : Nat → Prop} {p : Nat} {s : DS} (h : DvO w0 X p s W) (hB : Below W.heap.size W W') : Kb w0 X W W' := Kb.of_below hB h.old
/-- A block of the caller's own is set. -/
theorem DvO.set {w0 W : World} {X : Nat → Prop} {p : Nat} {s : DS} (h : DvO w0 X p s W) {b : Nat} (hb : X b) (hw : w0.heap.size ≤ b) (j : Nat) (v : Value) : DvO w0 X p s (W.setCell ⟨b, j, none⟩ v) := by
  refine ⟨?_, h.below.setCell hw _, fun k hk => by have := h.lt k hk; simpa using this⟩
  have hf : Fr (fun k => k = b) W (W.setCell ⟨b, j, none⟩ v) := Fr.setCell (Fr.refl (fun k => k = b) W) ⟨b, j, none⟩ (.inr rfl) v
  refine h.dev.fr hf (fun k hk e => ?_)
  subst e
  exact hk.2 hb
theorem kb_set {W : World} {b : Nat} (j : Nat) (v : Value) : ∀ k, k ≠ b → (W.setCell ⟨b, j, none⟩ v).heap[k]? = W.heap[k]? := fun k hk => Below.heap_setCell W ⟨b, j, none⟩ v k hk

/-- What a device's operations answer. -/
def errO (r : DS × Bool) : Int := if r.2 = true then 0 else 30
theorem runO_one (s : DS) (o : DOp) : runO s [o] = if s.dead = true then (s, false) else (o.on s, true) := rfl
theorem runO_append : ∀ (a b : List DOp) (s : DS), runO s (a ++ b) = if (runO s a).2 = true then runO (runO s a).1 b else runO s a
  | [], b, s => rfl
  | o :: a, b, s => by
    rw [List.cons_append, runO, runO]
    split
    · rfl
    · exact runO_append a b _

/-- A journal. -/
structure JS (w0 : World) (X : Nat → Prop) (p jb N B fr n g r : Nat) (s : DS) (W : World) : Prop where
  dev : DvO w0 X p s W
  ok : Okd N B s
  obj : W.heap[jb]? = some (.cells #[.pointer (some ⟨p, 0, none⟩), .int .i64 fr, .int .i64 n, .int .u64 g, .int .i64 r] 105 (0, 0))
  own : X jb
  ge : w0.heap.size ≤ jb
section
variable {w0 W W' : World} {X : Nat → Prop} {p jb N B fr n g r : Nat} {s s' : DS}
theorem JS.of (h : JS w0 X p jb N B fr n g r s W) (hB : Below W.heap.size W W') : JS w0 X p jb N B fr n g r s W' := ⟨h.dev.of hB, h.ok, bblk hB h.obj, h.own, h.ge⟩
theorem JS.drew (h : JS w0 X p jb N B fr n g r s W) : JS w0 X p jb N B fr n g r s W.drew := h.of (Below.refl _ _).drew
theorem JS.mono (h : JS w0 X p jb N B fr n g r s W) {C : Nat} (hc : B ≤ C) : JS w0 X p jb N C fr n g r s W := ⟨h.dev, h.ok.mono hc, h.obj, h.own, h.ge⟩
theorem JS.take (h : JS w0 X p jb N B fr n g r s W) (hB : Below W.heap.size W W') : JS w0 (fun k => X k ∨ W.heap.size ≤ k ∧ k < W'.heap.size) p jb N B fr n g r s W' := ⟨h.dev.take hB, h.ok, bblk hB h.obj, .inl h.own, h.ge⟩
theorem JS.less {Y : Nat → Prop} (h : JS w0 X p jb N B fr n g r s W) (hY : ∀ k, Y k → X k) (hj : Y jb) : JS w0 Y p jb N B fr n g r s W := ⟨h.dev.less hY, h.ok, h.obj, hj, h.ge⟩
theorem JS.kb (h : JS w0 X p jb N B fr n g r s W) (hB : Below W.heap.size W W') : Kb w0 X W W' := h.dev.kbelow hB
theorem JS.step (h : JS w0 X p jb N B fr n g r s W) {C : Nat} (hd : DvO w0 X p s' W') (hk : Kb w0 X W W') (ho : Okd N C s') : JS w0 X p jb N C fr n g r s' W' := ⟨hd, ho, (hk jb (.inr h.own)).trans h.obj, h.own, h.ge⟩
/-- Another block of the caller's own is set. -/
theorem JS.set (h : JS w0 X p jb N B fr n g r s W) {b : Nat} (hb : X b) (hw : w0.heap.size ≤ b) (hne : b ≠ jb) (j : Nat) (v : Value) : JS w0 X p jb N B fr n g r s (W.setCell ⟨b, j, none⟩ v) :=
  ⟨h.dev.set hb hw j v, h.ok, (kb_set j v jb (fun e => hne e.symm)).trans h.obj, h.own, h.ge⟩
theorem JS.setGen (h : JS w0 X p jb N B fr n g r s W) (g' : Nat) : JS w0 X p jb N B fr n g' r s (W.setCell ⟨jb, 3, none⟩ (.int .u64 g')) :=
  ⟨h.dev.set h.own h.ge 3 _, h.ok, by rw [blk_here h.obj 3]; rfl, h.own, h.ge⟩
theorem JS.setRec (h : JS w0 X p jb N B fr n g r s W) (r' : Nat) : JS w0 X p jb N B fr n g r' s (W.setCell ⟨jb, 4, none⟩ (.int .i64 r')) :=
  ⟨h.dev.set h.own h.ge 4 _, h.ok, by rw [blk_here h.obj 4]; rfl, h.own, h.ge⟩

theorem u64_sm {n : Int} (h0 : 0 ≤ n) (h : n < 1000000) : IntKind.u64.wrap n = n := by rw [IntKind.wrap_u64]; omega
theorem i64_sm {n : Int} (h0 : -1000000 ≤ n) (h : n < 1000000) : IntKind.i64.wrap n = n := IntWalk.i64_in _ (by omega)
theorem js_write (h : JS w0 X p jb N B fr n g r s W) (hB : B ≤ 90000) (i : Nat) (hi : i < N) (b : ByteArray) (hb : b.size = 64) : Calls Tryz.prog 107 #[.pointer (some ⟨p, 0, none⟩), .int .i64 i, .string b] W fun e W' =>
    e = .returned (.int .i64 (errO (runO s [.wr i b]))) ∧ JS w0 X p jb N (B + 1) fr n g r (runO s [.wr i b]).1 W' ∧ Kb w0 X W W' := by
  rw [runO_one]
  by_cases hd : s.dead = true
  · rw [if_pos hd]
    refine (write_down h.dev.dev hd _ _).mono ?_
    rintro e W' ⟨rfl, rfl⟩
    exact ⟨rfl, h.mono (by omega), Kb.refl _ _ _⟩
  · rw [if_neg hd]
    have hd' : s.dead = false := by simpa using hd
    have := h.ok.w0
    have := h.ok.w1
    have := h.ok.l0
    have := h.ok.l1
    have hr := h.ok.rows i
    refine (o_write h.dev hd' i (by rw [h.ok.hard]; exact hi) b hb (by omega) (u64_sm (by omega) (by omega)) (i64_sm (by omega) (by omega))).mono ?_
    rintro e W' ⟨rfl, h2, hk⟩
    have hkb := h.dev.kb h2 hk
    exact ⟨rfl, h.step h2 hkb (h.ok.wr hd' i b hb), hkb⟩
theorem js_flush (h : JS w0 X p jb N B fr n g r s W) (hB : B ≤ 90000) : Calls Tryz.prog 78 #[.pointer (some ⟨p, 0, none⟩)] W fun e W' =>
    e = .returned (.int .i64 (errO (runO s [.fl]))) ∧ JS w0 X p jb N B fr n g r (runO s [.fl]).1 W' ∧ Kb w0 X W W' := by
  rw [runO_one]
  by_cases hd : s.dead = true
  · rw [if_pos hd]
    refine (flush_down h.dev.dev hd).mono ?_
    rintro e W' ⟨rfl, hB⟩
    exact ⟨rfl, h.of hB, h.kb hB⟩
  · rw [if_neg hd]
    have hd' : s.dead = false := by simpa using hd
    refine (o_flush h.dev hd' (fun j => Nat.le_trans (h.ok.rows j) (by omega))).mono ?_
    rintro e W' ⟨rfl, h2, hk⟩
    have hkb := h.dev.kb h2 hk
    exact ⟨rfl, h.step h2 hkb h.ok.fl, hkb⟩
theorem js_read (h : JS w0 X p jb N B fr n g r s W) (hd : s.dead = false) (i : Nat) (hi : i < N) : Calls Tryz.prog 40 #[.pointer (some ⟨p, 0, none⟩), .int .i64 i] W fun e W' =>
    e = .returned (.tuple #[.string (newest s i), .int .i64 0]) ∧ JS w0 X p jb N B fr n g r s W' ∧ Kb w0 X W W' := by
  refine (o_read h.dev hd i (by rw [h.ok.hard]; exact hi)).mono ?_
  rintro e W' ⟨rfl, h2, hk⟩
  have hkb := h.dev.kb h2 hk
  exact ⟨rfl, h.step h2 hkb h.ok, hkb⟩
theorem js_read_down (h : JS w0 X p jb N B fr n g r s W) (hd : s.dead = true) (i : Int) : Calls Tryz.prog 40 #[.pointer (some ⟨p, 0, none⟩), .int .i64 i] W fun e W' =>
    e = .returned (.tuple #[.string ByteArray.empty, .int .i64 30]) ∧ JS w0 X p jb N B fr n g r s W' ∧ Kb w0 X W W' := by
  have h' := h
  obtain ⟨hb, hc, m, L, h1, h2⟩ := h.dev.dev
  refine (dev_read_down h1 hd i).mono ?_
  rintro e W' ⟨rfl, hB⟩
  exact ⟨rfl, h'.of hB, h'.kb hB⟩
theorem js_len (h : JS w0 X p jb N B fr n g r s W) : Calls Tryz.prog 45 #[.pointer (some ⟨p, 0, none⟩)] W fun e W' => e = .returned (.int .i64 N) ∧ W = W' := by
  rw [← h.ok.hard]
  obtain ⟨hb, hc, m, L, h1, h2⟩ := h.dev.dev
  exact dev_len h1
set_option maxHeartbeats 400000 in
theorem jgen_any (h : JS w0 X p jb N B fr n g r s W) : Calls Tryz.prog 48 #[.pointer (some ⟨jb, 0, none⟩)] W fun e W' => e = .returned (.int .u64 g) ∧ W = W' := by
  have h3 := cl_of h.obj 3
  go_enter Tryz.func48, Tryz.ntmps48
  go_wp2_with fail
  go_ret
  exact ⟨rfl, rfl⟩
set_option maxHeartbeats 400000 in
theorem jmax_any (h : JS w0 X p jb N B fr n g r s W) {m : Nat} (hm : IsMost n m) (hn : n ≤ 100000) : Calls Tryz.prog 13 #[.pointer (some ⟨jb, 0, none⟩)] W fun e W' => e = .returned (.int .i64 m) ∧ W = W' := by
  have h2 := cl_of h.obj 2
  have hc := most_any n m hn hm W
  have HC := Lib.hid hc
  clear hc hm
  go_enter Tryz.func13, Tryz.ntmps13
  go_wp2_with fail
  refine HC.out.mono ?_
  rintro e w1 ⟨rfl, rfl⟩
  go_wp2_with fail
  go_ret
  exact ⟨rfl, rfl⟩
end

/-- A transaction under way. -/
def WO (W : World) (wb jb g : Nat) (lv : Value) : Prop := W.heap[wb]? = some (.cells #[.pointer (some ⟨jb, 0, none⟩), .int .u64 g, lv] 158 (0, 0))
theorem WO.kb {w0 W W' : World} {X : Nat → Prop} {wb jb g : Nat} {lv : Value} (h : WO W wb jb g lv) (hk : Kb w0 X W W') (hx : X wb) : WO W' wb jb g lv := (hk wb (.inr hx)).trans h
/-- A row of puts. -/
def SlP (w0 : World) (X : Nat → Prop) (W : World) (v : Value) (ls : List (Int × ByteArray)) : Prop := ∃ ao cap, v = .slice ao ls.length cap ∧ (0 < ls.length → ∃ b off, ao = some ⟨b, off, none⟩ ∧ (b < w0.heap.size ∨ X b) ∧ ∀ i, i < ls.length → W.cell? ⟨b, off + i * 2, none⟩ = some (.int .i64 (ls.getD i (0, ByteArray.empty)).1) ∧ W.cell? ⟨b, off + i * 2 + 1, none⟩ = some (.string (ls.getD i (0, ByteArray.empty)).2))
theorem SlP.kb {w0 W W' : World} {X : Nat → Prop} {v : Value} {ls : List (Int × ByteArray)} (h : SlP w0 X W v ls) (hk : Kb w0 X W W') : SlP w0 X W' v ls := by
  obtain ⟨ao, cap, e, h⟩ := h
  refine ⟨ao, cap, e, fun h0 => ?_⟩
  obtain ⟨b, off, e2, hb, hc⟩ := h h0
  exact ⟨b, off, e2, hb, fun i hi => ⟨(hk.cell hb _).trans (hc i hi).1, (hk.cell hb _).trans (hc i hi).2⟩⟩
theorem SlP.less {w0 W : World} {X Y : Nat → Prop} {v : Value} {ls : List (Int × ByteArray)} (h : SlP w0 X W v ls) (hy : ∀ k, X k → Y k) : SlP w0 Y W v ls := by
  obtain ⟨ao, cap, e, h⟩ := h
  refine ⟨ao, cap, e, fun h0 => ?_⟩
  obtain ⟨b, off, e2, hb, hc⟩ := h h0
  exact ⟨b, off, e2, hb.imp id (hy b), hc⟩
/-- A transaction, its sectors as Go's numbers. -/
def zP (l : Puts) : List (Int × ByteArray) := l.map fun x => ((x.1 : Int), x.2)
theorem zP_length (l : Puts) : (zP l).length = l.length := by simp [zP]
theorem zP_get (l : Puts) (i : Nat) (h : i < l.length) : (zP l).getD i (0, ByteArray.empty) = ((l[i].1 : Int), l[i].2) := by simp [zP, List.getD_eq_getElem?_getD, h]
end Go.Proofs.YtjjphcnoegaimaaGreat
