/- The document's answer for package geo: May, Part, Block. The document's answer for package inode: two, at, Tell, Told. The document's answer for package bmap: has, May; a transaction over sectors of noughts: Read. The document's answer for package bmap: told, tell. -/
import Derived.Test.YtjjphcnoegaimaaGreatGT
import Derived.Deep.DeepCutAuto
import Derived.Test.YtjjphcnoegaimaaGreatBm2
import Derived.Test.YtjjphcnoegaimaaGreatGots
import Derived.Laws.BitsAllLaws
import Derived.Test.YtjjphcnoegaimaaGreatGX
import Derived.Test.YtjjphcnoegaimaaGreatHG
namespace Go.Proofs.YtjjphcnoegaimaaGreat
open Go.RowKit
set_option maxRecDepth 20000
set_option linter.unusedSimpArgs false
set_option linter.unusedVariables false

set_option maxHeartbeats 1000000 in
theorem rmay_yes {i b j : Int} (h : Mays i b j) (w : World) : Calls Tryz.prog 118 #[.agg #[.int .i64 i, .int .i64 b, .int .i64 j]] w fun e w' => e = .returned (.bool true) ∧ Below w.heap.size w w' := by
  obtain ⟨i0, i1, b0, b1, j0, j1⟩ := h
  go_enter Tryz.func118, Tryz.ntmps118
  go_wp2_with fail
  go_ret
  exact ⟨rfl, bnew _ _⟩
set_option maxHeartbeats 1000000 in
theorem rmay_no {i b j : Int} (h : ¬ Mays i b j) (w : World) : Calls Tryz.prog 118 #[.agg #[.int .i64 i, .int .i64 b, .int .i64 j]] w fun e w' => e = .returned (.bool false) ∧ Below w.heap.size w w' := by
  have H := Lib.hid h
  clear h
  by_cases h1 : 2 ≤ i
  · by_cases h2 : i ≤ 256
    · by_cases h3 : 8 ≤ b
      · by_cases h4 : b ≤ 1024
        · by_cases h5 : 40 ≤ j
          · by_cases h6 : j ≤ 256
            · exact absurd ⟨h1, h2, h3, h4, h5, h6⟩ H.out
            · go_enter Tryz.func118, Tryz.ntmps118
              go_wp2_with fail
              go_ret
              exact ⟨rfl, bnew _ _⟩
          · go_enter Tryz.func118, Tryz.ntmps118
            go_wp2_with fail
            go_ret
            exact ⟨rfl, bnew _ _⟩
        · go_enter Tryz.func118, Tryz.ntmps118
          go_wp2_with fail
          go_ret
          exact ⟨rfl, bnew _ _⟩
      · go_enter Tryz.func118, Tryz.ntmps118
        go_wp2_with fail
        go_ret
        exact ⟨rfl, bnew _ _⟩
    · go_enter Tryz.func118, Tryz.ntmps118
      go_wp2_with fail
      go_ret
      exact ⟨rfl, bnew _ _⟩
  · go_enter Tryz.func118, Tryz.ntmps118
    go_wp2_with fail
    go_ret
    exact ⟨rfl, bnew _ _⟩
set_option maxHeartbeats 1000000 in
theorem rsizes_any {i b j : Int} (h : Mays i b j) (w : World) : Calls Tryz.prog 150 #[.agg #[.int .i64 i, .int .i64 b, .int .i64 j]] w fun e w' => (∃ g, e = .returned (.slice (some ⟨g, 0, none⟩) 6 6) ∧ w.heap.size ≤ g ∧ w'.heap[g]? = some (.cells (szc i b j) 3 (0, 0))) ∧ Below w.heap.size w w' := by
  obtain ⟨i0, i1, b0, b1, j0, j1⟩ := h
  go_enter Tryz.func150, Tryz.ntmps150
  go_wp2_with fail
  rw [show i + 1 + 511 = i + 512 by omega, show b + 1 + 511 = b + 512 by omega]
  go_wp2_with fail
  go_ret
  exact ⟨⟨w.heap.size + 1, rfl, by omega, hp_new _ _ (by simp)⟩, bal (bnew _ _) _⟩
set_option maxHeartbeats 2000000 in
theorem rpart_yes {i b j : Int} (h : Mays i b j) (p : Nat) (hp : p < 6) (w : World) : Calls Tryz.prog 134 #[.agg #[.int .i64 i, .int .i64 b, .int .i64 j], .int .i64 p] w fun e w' => e = .returned (.tuple #[.agg #[.int .i64 (fr i b j p), .int .i64 (sz i b j p)], .int .i64 0]) ∧ Below w.heap.size w w' := by
  have c0 : ((w.alloc (.cells #[.int .i64 i, .int .i64 b, .int .i64 j] 56)).alloc (.cells #[.int .i64 0, .int .i64 0] 134)).heap[w.heap.size + 1]? = some (.cells #[.int .i64 0, .int .i64 0] 134 (0, 0)) := hp_new _ _ (by simp)
  go_enter Tryz.func134, Tryz.ntmps134
  go_wp2_with fail
  refine (rsizes_any h _).mono ?_
  rintro e w2 ⟨⟨g, rfl, hgb, hg⟩, hB2⟩
  have hS := bblk hB2 c0
  have B2 := bt (bal (bnew w (.cells #[.int .i64 i, .int .i64 b, .int .i64 j] 56)) (.cells #[.int .i64 0, .int .i64 0] 134)) hB2
  have s0 := cl_of hS 0
  have s1 := cl_of hS 1
  have z0 := fz_of hS 0
  have z1 := fz_of hS 1
  clear c0 hB2
  go_wp2_with fail
  go_loop [7, 8] (fun n v => ∃ k : Nat, ∃ F : Int, k ≤ p ∧ v = .int .i64 k ∧ n = .int .i64 F ∧ Hid (F = fr i b j k) ∧ 0 ≤ F ∧ F ≤ 2000) (fun _ v => p - (intOf v).toNat)
  case atStart => exact ⟨0, 0, by omega, rfl, rfl, Lib.hid rfl, by omega, by omega⟩
  case round =>
    obtain ⟨k, F, hk, rfl, rfl, HF, f0, f1⟩ := hrel
    have hk6 : k < 6 := by omega
    have hq := (cl_of hg k).trans (szc_get i b j hk6)
    have hsb := sz_bd h hk6
    have HS := Lib.hid (fr_succ i b j hk6)
    generalize hz : sz i b j k = Z at *
    have HZ := Lib.hid hz
    clear hz
    by_cases hlt : k < p
    · go_wp2_with fail
      go_round
      case rel => exact ⟨k + 1, F + Z, by omega, by go_num, rfl, Lib.hid (by rw [HS.out, HF.out]), by omega, by have := fr_bd h (k := k + 1) (by omega); rw [HS.out, ← HF.out] at this; omega⟩
      case measure => simp [intOf]; omega
    · obtain rfl : k = p := by omega
      clear hlt
      go_wp2_with fail
      exact bodyPost_ret (v := .tuple #[.agg #[.int .i64 F, .int .i64 Z], .int .i64 0]) (by simp [results, Tryz.results134, go_sem, s0, s1]) rfl ⟨by rw [HF.out, HZ.out], (B2.setCell (by simp) _).setCell (by simp) _⟩
set_option maxHeartbeats 1000000 in
theorem rblock_no {i b j n : Int} (h : ¬ (1 ≤ n ∧ n ≤ b)) (n0 : 0 ≤ n) (_n1 : n < 65536) (w : World) : Calls Tryz.prog 120 #[.agg #[.int .i64 i, .int .i64 b, .int .i64 j], .int .u16 n] w fun e w' => e = .returned (.tuple #[.int .i64 0, .int .i64 2]) ∧ Below w.heap.size w w' := by
  by_cases n2 : n < 1
  · go_enter Tryz.func120, Tryz.ntmps120
    go_wp2_with fail
    go_ret2
    exact ⟨rfl, bnew _ _⟩
  · have n3 : b < n := by omega
    clear h
    go_enter Tryz.func120, Tryz.ntmps120
    go_wp2_with fail
    go_ret2
    exact ⟨rfl, bnew _ _⟩
set_option maxHeartbeats 1000000 in
theorem rblock_yes {i b j n : Int} (hm : Mays i b j) (n0 : 1 ≤ n) (n1 : n ≤ b) (w : World) : Calls Tryz.prog 120 #[.agg #[.int .i64 i, .int .i64 b, .int .i64 j], .int .u16 n] w fun e w' => e = .returned (.tuple #[.int .i64 (fr i b j 5 + n - 1), .int .i64 0]) ∧ Below w.heap.size w w' := by
  have d0 := hp_new w (.cells #[.int .i64 i, .int .i64 b, .int .i64 j] 56) rfl
  have ib := hm.b1
  go_enter Tryz.func120, Tryz.ntmps120
  go_wp2_with fail
  refine (rpart_yes hm 5 (by decide) _).mono ?_
  rintro e w1 ⟨rfl, hB⟩
  have B1 := bt (bnew w (.cells #[.int .i64 i, .int .i64 b, .int .i64 j] 56)) hB
  have hfb := fr_bd hm (k := 5) (by decide)
  generalize hF : fr i b j 5 = F at *
  generalize sz i b j 5 = Z at *
  have HF := Lib.hid hF
  clear hF
  go_wp2_with fail
  go_ret2
  exact ⟨by rw [HF.out]; rfl, bal B1 _⟩
end Go.Proofs.YtjjphcnoegaimaaGreat

namespace Go.Proofs.YtjjphcnoegaimaaGreat
open Go.RowKit
set_option maxRecDepth 20000
set_option linter.unusedSimpArgs false
set_option linter.unusedVariables false

theorem take_snocI (zs : List Int) {k : Nat} (hk : k < zs.length) : zs.take (k + 1) = zs.take k ++ [zs.getD k 0] := by
  rw [List.take_succ_eq_append_getElem hk, List.getD_eq_getElem?_getD, List.getElem?_eq_getElem hk, Option.getD_some]
theorem oneU16 (n : Int) : ∀ u ∈ [Value.int .u16 n], u.oneCell' = true := by
  intro u hu
  simp only [List.mem_singleton] at hu
  subst hu
  rfl
def TellR (zs : List Int) (T : List UInt8) (z : Int) : Prop := (z = 0 ∧ zs.length ≤ 32 ∧ T = pby zs ++ zeros (64 - 2 * zs.length)) ∨ (z = 2 ∧ 32 < zs.length ∧ T = [])
theorem bytes2 (n : Nat) : bytesLE n 2 = [UInt8.ofNat (n % 256), UInt8.ofNat (n / 256 % 256)] := rfl
set_option maxHeartbeats 2000000 in
theorem rtwo_any (v : Int) (h0 : 0 ≤ v) (h1 : v < 65536) (w : World) : Calls Tryz.prog 123 #[.int .u16 v] w fun e w' => e = .returned (.string (bs (bytesLE v.toNat 2))) ∧ Below w.heap.size w w' := by
  have hb : bc (bytesLE v.toNat 2) = #[.int .u8 (v % 256), .int .u8 (v / 256 % 256)] := by
    rw [bytes2]
    simp only [bc, List.map_cons, List.map_nil]
    have e0 : ((UInt8.ofNat (v.toNat % 256)).toNat : Int) = v % 256 := by simp; omega
    have e1 : ((UInt8.ofNat (v.toNat / 256 % 256)).toNat : Int) = v / 256 % 256 := by simp; omega
    rw [e0, e1]
  have hcv := conv_new (bytesLE v.toNat 2) 2 (bytesLE_length 2 _)
  rw [hb] at hcv
  clear hb
  have k0 : IntKind.u8.wrap v = v % 256 := by rw [IntKind.wrap_u8]
  have k1 : IntKind.u8.wrap (v / 256) = v / 256 % 256 := by rw [IntKind.wrap_u8]
  go_enter Tryz.func123, Tryz.ntmps123
  go_wp2_with fail
  go_ret
  exact ⟨rfl, bnew _ _⟩
theorem or_sh8 {a b : Int} (ha : 0 ≤ a ∧ a < 256) (hb : 0 ≤ b ∧ b < 256) : bits .or .u16 a (b * 256) = a + 256 * b := by
  obtain ⟨a, rfl⟩ := Int.eq_ofNat_of_zero_le ha.1
  obtain ⟨b, rfl⟩ := Int.eq_ofNat_of_zero_le hb.1
  have e : ((b : Int) * 256) = ((2 ^ 8 * b : Nat) : Int) := by omega
  rw [e, u16_or_nat _ _ (by omega) (by omega), Nat.or_comm, ← Nat.two_pow_add_eq_or_of_lt (by omega)]
  omega
set_option maxHeartbeats 1000000 in
theorem r7at_any (s : ByteArray) (k : Nat) (hk : k + 1 < s.size) (hs : s.size ≤ 100000) (w : World) : Calls Tryz.prog 135 #[.string s, .int .i64 k] w fun e w' => e = .returned (.int .u16 ((s[k].toNat : Int) + 256 * (s[k + 1].toNat : Int))) ∧ Below w.heap.size w w' := by
  have h0 := s[k].toNat_lt
  have h1 := s[k + 1].toNat_lt
  have i0 : ∀ W, (Instr.index 9 (.string s) (.int .i64 k)).run Tryz.prog W = .ok (.int .u8 (s[k].toNat : Int)) W := fun W => by
    rw [run_index_string _ _ _ _ _ Tryz.underlying9, dif_pos (by omega)]
    rfl
  have i1 : ∀ W, (Instr.index 9 (.string s) (.int .i64 ((k : Int) + 1))).run Tryz.prog W = .ok (.int .u8 (s[k + 1].toNat : Int)) W := fun W => by
    rw [run_index_string _ _ _ _ _ Tryz.underlying9, dif_pos (by omega)]
    rfl
  have ho := or_sh8 (a := (s[k].toNat : Int)) (b := (s[k + 1].toNat : Int)) (by omega) (by omega)
  have hw : IntKind.u16.wrap ((s[k + 1].toNat : Int) * 256) = (s[k + 1].toNat : Int) * 256 := IntWalk.u16_in _ (by omega)
  have w0 : IntKind.u16.wrap (s[k].toNat : Int) = (s[k].toNat : Int) := IntWalk.u16_in _ (by omega)
  have w1 : IntKind.u16.wrap (s[k + 1].toNat : Int) = (s[k + 1].toNat : Int) := IntWalk.u16_in _ (by omega)
  have H0 : (0 : Int) ≤ (s[k].toNat : Int) ∧ (s[k].toNat : Int) < 256 := by omega
  have H1 : (0 : Int) ≤ (s[k + 1].toNat : Int) ∧ (s[k + 1].toNat : Int) < 256 := by omega
  clear h0 h1
  generalize (s[k].toNat : Int) = A at *
  generalize (s[k + 1].toNat : Int) = B at *
  go_enter Tryz.func135, Tryz.ntmps135
  go_wp2_with fail
  go_quiet (fail)
  go_wp2_with fail
  go_ret
  exact ⟨rfl, ⟨rfl, rfl, rfl, Nat.le_refl _, fun _ _ => rfl⟩⟩
set_option maxHeartbeats 1000000 in
theorem rtell_any {v : Value} {zs : List Int} {w : World} (h : SlI .u16 w v zs) : Calls Tryz.prog 95 #[v] w fun e w' => (∃ T z, e = .returned (.tuple #[.string (bs T), .int .i64 z]) ∧ TellR zs T z) ∧ Below w.heap.size w w' := by
  obtain ⟨⟨ao, cap, rfl, hcs⟩, hwf⟩ := h
  have HC := Lib.hid hcs
  have HW := Lib.hid hwf
  clear hcs hwf
  by_cases h32 : 32 < zs.length
  · have d0 : decide ((zs.length : Int) > 32) = true := decide_eq_true (by omega)
    go_enter Tryz.func95, Tryz.ntmps95
    go_wp2_with fail
    go_ret2
    exact ⟨⟨[], 2, rfl, .inr ⟨rfl, h32, rfl⟩⟩, Below.refl _ _⟩
  · have d0 : decide ((zs.length : Int) > 32) = false := decide_eq_false (by omega)
    go_enter Tryz.func95, Tryz.ntmps95
    go_wp2_with fail
    go_loopw [4, 5] (fun s v wr => ∃ k : Nat, ∃ l : List UInt8, k ≤ zs.length ∧ v = .int .i64 k ∧ s = .string (bs l) ∧ Hid (l = pby (zs.take k)) ∧ Below w.heap.size w wr) (fun _ v _ => zs.length - (intOf v).toNat)
    case atStart => exact ⟨0, [], by omega, rfl, rfl, rfl, Below.refl _ _⟩
    case round =>
      obtain ⟨k, l, hk, rfl, rfl, HL, hB⟩ := hrel
      have hll : l.length = 2 * k := by rw [HL.out, pby_length, List.length_take]; omega
      have hs := bs_size l
      by_cases hlt : k < zs.length
      · obtain ⟨b, off, rfl, hbl, hcell⟩ := HC.out (by omega)
        have hc := (hB.cell (p := ⟨b, off + k, none⟩) hbl).trans (hcell k hlt)
        have hz := wfu16_mem HW.out hlt
        have HP := Lib.hid (pby_snoc zs hlt)
        generalize zs.getD k 0 = z at *
        have HLL := Lib.hid hll
        have hl64 : l.length ≤ 64 := by omega
        clear hcell hll
        go_wp2_with fail
        refine (rtwo_any z (by omega) (by omega) _).mono ?_
        rintro e w2 ⟨rfl, hB4⟩
        have h4 : (bs (bytesLE z.toNat 2)).size = 2 := by rw [bs_size, bytesLE_length]
        have HA := bs_append l (bytesLE z.toNat 2)
        go_wp2_with fail
        go_roundw
        case rel => exact ⟨k + 1, l ++ bytesLE z.toNat 2, by omega, by go_num, rfl, Lib.hid (by rw [HP.out, HL.out]), bt hB hB4⟩
        case measure => simp [intOf]; omega
      · obtain rfl : k = zs.length := by omega
        have hmk := make_zeros (64 - l.length) (by omega)
        have hcv := conv_new (zeros (64 - l.length)) (64 - l.length) (zeros_length _)
        have HA := bs_append l (zeros (64 - l.length))
        have hz : (bs (zeros (64 - l.length))).size = 64 - l.length := by rw [bs_size, zeros_length]
        have ei : ((64 - l.length : Nat) : Int) = 64 - (l.length : Int) := by omega
        rw [ei] at hmk
        have EI := Lib.hid ei
        have HLL := Lib.hid hll
        clear ei hll
        have hl64 : l.length ≤ 64 := by have := HLL.out; omega
        go_wp2_with fail
        go_ret2
        exact ⟨⟨l ++ zeros (64 - l.length), 0, rfl, .inl ⟨rfl, by omega, by rw [HLL.out, HL.out, List.take_length]⟩⟩, bal hB _⟩
theorem gots_get : ∀ (l : List UInt8) (k : Nat) (h : 2 * k + 1 < l.length), (gots l).getD k 0 = (l[2 * k].toNat : Int) + 256 * (l[2 * k + 1].toNat : Int)
  | [], k, h => by simp at h
  | [_], k, h => by simp at h
  | a :: b :: l, 0, h => by rw [gots_two]; simp
  | a :: b :: l, k + 1, h => by
    have ih := gots_get l k (by simp at h; omega)
    rw [gots_two, List.getD_cons_succ, ih]
    simp [Nat.mul_add]
theorem ownsRow_belowI {W W' : World} {B : Nat} {e : TypeId} {size : Nat} {u : Value} {k : Nat} {xs : List Value} (h : W.ownsRow B e size u k xs) (hB : Below W.heap.size W W') : W'.ownsRow B e size u k xs := by
  obtain ⟨hlen, hrow⟩ := h
  refine ⟨hlen, ?_⟩
  rcases hrow with h' | ⟨g, cap, cur, rfl, h0, hh, hr⟩
  · exact .inl h'
  · exact .inr ⟨g, cap, cur, rfl, h0, (hB.block g (blk_lt hh)).trans hh, hr⟩
/-- What a block of bytes tells, and whether it does. -/
def tl (l : List UInt8) : List Int := if l.length = 64 then gots l else []
def tz (l : List UInt8) : Int := if l.length = 64 then 0 else if l.length < 64 then 6 else 7
set_option maxHeartbeats 2000000 in
theorem rtold_any (l : List UInt8) (hl : l.length ≤ 100000) (w : World) : Calls Tryz.prog 122 #[.string (bs l)] w fun e w' => (∃ v, e = .returned (.tuple #[v, .int .i64 (tz l)]) ∧ w'.ownsRow w.heap.size 57 1 v (tl l).length (u16s (tl l))) ∧ Below w.heap.size w w' := by
  obtain ⟨i0, hi, hz0, hz1, hz2⟩ := info_parts Tryz.infoU16
  have hs := bs_size l
  by_cases h1 : l.length < 64
  · have e1 : tl l = [] := by unfold tl; rw [if_neg (by omega)]
    have e2 : tz l = 6 := by unfold tz; rw [if_neg (by omega), if_pos h1]
    rw [e1, e2]
    have d0 : decide ((l.length : Int) < 64) = true := decide_eq_true (by omega)
    go_enter Tryz.func122, Tryz.ntmps122
    go_wp2_with fail
    go_ret2
    exact ⟨⟨_, rfl, ⟨rfl, .inl ⟨rfl, rfl⟩⟩⟩, Below.refl _ _⟩
  have d0 : decide ((l.length : Int) < 64) = false := decide_eq_false (by omega)
  by_cases h2 : 64 < l.length
  · have e1 : tl l = [] := by unfold tl; rw [if_neg (by omega)]
    have e2 : tz l = 7 := by unfold tz; rw [if_neg (by omega), if_neg h1]
    rw [e1, e2]
    have d1 : decide ((l.length : Int) > 64) = true := decide_eq_true (by omega)
    go_enter Tryz.func122, Tryz.ntmps122
    go_wp2_with fail
    go_ret2
    exact ⟨⟨_, rfl, ⟨rfl, .inl ⟨rfl, rfl⟩⟩⟩, Below.refl _ _⟩
  have d1 : decide ((l.length : Int) > 64) = false := decide_eq_false (by omega)
  have h64 : l.length = 64 := by omega
  have e1 : tl l = gots l := by unfold tl; rw [if_pos h64]
  have e2 : tz l = 0 := by unfold tz; rw [if_pos h64]
  rw [e1, e2]
  clear e1 e2
  have hgl : (gots l).length = 32 := by rw [gots_length, h64]
  have H : ∀ k : Nat, k < 32 → ∀ W : World, Calls Tryz.prog 135 #[.string (bs l), .int .i64 (2 * (k : Int))] W fun e w' => e = .returned (.int .u16 ((gots l).getD k 0)) ∧ Below W.heap.size W w' := by
    intro k hk W
    have := r7at_any (bs l) (2 * k) (by omega) (by omega) W
    rw [gots_get l k (by omega)]
    exact this
  have HH := Lib.hid H
  have HG := Lib.hid hgl
  have hb : ∀ k, 0 ≤ (gots l).getD k 0 ∧ (gots l).getD k 0 < 65536 := gots_bd l
  have HB := Lib.hid hb
  clear H hgl h1 h2 hb
  go_enter Tryz.func122, Tryz.ntmps122
  go_wp2_with fail
  go_loopw [4, 5] (fun v c wr => ∃ k : Nat, k ≤ 32 ∧ c = .int .i64 k ∧ wr.ownsRow w.heap.size 57 1 v ((gots l).take k).length (u16s ((gots l).take k)) ∧ Below w.heap.size w wr) (fun _ c _ => 32 - (intOf c).toNat)
  case atStart => exact ⟨0, by omega, rfl, ⟨rfl, .inl ⟨rfl, rfl⟩⟩, Below.refl _ _⟩
  case round =>
    obtain ⟨k, hk, rfl, hown, hB⟩ := hrel
    by_cases hlt : k < 32
    · have d2 : decide ((k : Int) < 32) = true := decide_eq_true (by omega)
      have hc := HH.out k hlt
      have hv := HB.out k
      have HT := Lib.hid (take_snocI (gots l) (k := k) (by rw [HG.out]; exact hlt))
      have hkl : ((gots l).take k).length = k := by rw [List.length_take, HG.out]; omega
      generalize (gots l).getD k 0 = V at *
      generalize hX : (gots l).take k = xs at *
      have HC := Lib.hid hc
      clear hc
      go_wp2_with fail
      refine (HC.out _).mono ?_
      rintro e w1 ⟨rfl, hB1⟩
      have hown1 := ownsRow_belowI hown hB1
      have B1 := bt hB hB1
      clear hown hB hB1
      go_wp2_with (at_builtin; refine wpList_append_own _ rfl (.tmp 16) (.tmp 21) 68 rfl w.heap.size 57 i0 (.int .u16 0) 1 2 Tryz.underlying68 hi hz0 hz1 hz2 rfl (by decide) u4 xs.length (u16s xs) rfl ?_ ⟨w1.heap.size, 0, none⟩ 1 1 [.int .u16 V] rfl rfl ?_ ?_ ?_ ?_ ?_ ?_)
      · exact hown1.alloc _
      · intro j u hj
        rw [Addr.add_lit, Nat.zero_add, cl_of (hp_new w1 _ rfl)]
        simpa using hj
      · exact oneU16 _
      · simp only [maxLen]
        omega
      · omega
      · have := B1.size
        simp
        omega
      intro v' w' hrow hg _
      have hB' := Below.grown (B1.alloc B1.size (.cells #[.int .u16 V] 57)) hg (by have := B1.size; simp; omega) (fun k hk => ino_base hown1 hk)
      have hu : u16s xs ++ [.int .u16 V] = u16s (xs ++ [V]) := by simp [u16s]
      rw [hu] at hrow
      clear hu hg hown1 B1
      go_wp2_with fail
      go_roundw
      case rel => exact ⟨k + 1, by omega, by go_num, by rw [HT.out]; simpa [hkl] using hrow, hB'⟩
      case measure => simp [intOf]; omega
    · obtain rfl : k = 32 := by omega
      rw [List.take_of_length_le (by rw [HG.out]; exact Nat.le_refl _)] at hown
      go_wp2_with fail
      go_ret2
      exact ⟨⟨u4, rfl, hown⟩, hB⟩
end Go.Proofs.YtjjphcnoegaimaaGreat

namespace Go.Proofs.YtjjphcnoegaimaaGreat
open Go.RowKit Go.Shelf Go.Maps
set_option maxRecDepth 20000
set_option linter.unusedVariables false
set_option linter.unusedSimpArgs false

set_option maxHeartbeats 400000 in
theorem has9_any {i b j : Int} (v : Int) (h0 : 0 ≤ v) (h1 : v < 65536) (c : Bool) (hc : decide (v ≤ b) = c) (w : World) : Calls Tryz.prog 119 #[.agg #[.int .i64 i, .int .i64 b, .int .i64 j], .int .u16 v] w fun e w' => e = .returned (.bool c) ∧ Below w.heap.size w w' := by
  have hw : IntKind.i64.wrap v = v := i64_sm (by omega) (by omega)
  go_enter Tryz.func119, Tryz.ntmps119
  go_wp2_with fail
  go_ret
  exact ⟨by rw [← hc]; rfl, bnew _ _⟩
set_option maxHeartbeats 8000000 in
theorem r9may_any {i b j v : Int} {x : Ino} (hx : x.Wf) (h0 : 0 ≤ v) (h1 : v < 65536) (r : Bool) (hr : r = true ↔ MayB i b j x v) (w : World) : Calls Tryz.prog 92 #[gv i b j, .agg (ic x), .int .u16 v] w fun e w' => e = .returned (.bool r) ∧ Below w.heap.size w w' := by
  unfold gv ic
  have HR := Lib.hid hr
  have HX := Lib.hid hx
  clear hx hr
  by_cases hg : Mays i b j
  rotate_left
  · obtain rfl : r = false := by
      rw [Bool.eq_false_iff]
      intro e
      have hm := HR.out.1 e
      exact absurd hm.g hg
    have HM : Hid (∀ w, Calls Tryz.prog 118 #[.agg #[.int .i64 i, .int .i64 b, .int .i64 j]] w fun e w' => e = .returned (.bool false) ∧ Below w.heap.size w w') := Lib.hid (fun w => rmay_no hg w)
    clear hg HR
    go_enter Tryz.func92, Tryz.ntmps92
    go_wp2_with fail
    obtain ⟨W1, hW1⟩ : ∃ W1, ((w.alloc (.cells #[.int .i64 i, .int .i64 b, .int .i64 j] 56)).alloc (.cells #[.int .u8 x.k, .int .u16 x.l, .int .u32 x.s, .int .u16 x.d0, .int .u16 x.d1, .int .u16 x.d2, .int .u16 x.d3, .int .u16 x.n] 61)).alloc (.cells #[.int .u16 x.d0, .int .u16 x.d1, .int .u16 x.d2, .int .u16 x.d3] 59) = W1 := ⟨_, rfl⟩
    have b3 : W1.heap[w.heap.size]? = some (.cells #[.int .i64 i, .int .i64 b, .int .i64 j] 56 (0, 0)) := by rw [← hW1, hp_old _ _ (by simp; omega), hp_old _ _ (by simp), hp_new _ _ rfl]
    have b4 : W1.heap[w.heap.size + 1]? = some (.cells #[.int .u8 x.k, .int .u16 x.l, .int .u32 x.s, .int .u16 x.d0, .int .u16 x.d1, .int .u16 x.d2, .int .u16 x.d3, .int .u16 x.n] 61 (0, 0)) := by rw [← hW1, hp_old _ _ (by simp), hp_new _ _ (by simp)]
    have b7 : W1.heap[w.heap.size + 1 + 1]? = some (.cells #[.int .u16 x.d0, .int .u16 x.d1, .int .u16 x.d2, .int .u16 x.d3] 59 (0, 0)) := by rw [← hW1, hp_new _ _ (by simp)]
    have hB : Below w.heap.size w W1 := by rw [← hW1]; exact bal (bal (bnew _ _) _) _
    simp only [hW1]
    clear hW1
    refine (HM.out _).mono ?_
    rintro e w2 ⟨rfl, hB2⟩
    replace hB := bt hB hB2
    go_wp2_with fail
    go_ret
    exact ⟨rfl, hB⟩
  have HM : Hid (∀ w, Calls Tryz.prog 118 #[.agg #[.int .i64 i, .int .i64 b, .int .i64 j]] w fun e w' => e = .returned (.bool true) ∧ Below w.heap.size w w') := Lib.hid (fun w => rmay_yes hg w)
  have HG := Lib.hid hg
  clear hg
  by_cases h0' : v ≤ b
  rotate_left
  · have H0 : Hid (¬ v ≤ b) := Lib.hid (by omega)
    obtain rfl : r = false := by
      rw [Bool.eq_false_iff]
      intro e
      have hm := HR.out.1 e
      exact absurd hm.v H0.out
    clear h0' HR
    go_enter Tryz.func92, Tryz.ntmps92
    go_wp2_with fail
    obtain ⟨W1, hW1⟩ : ∃ W1, ((w.alloc (.cells #[.int .i64 i, .int .i64 b, .int .i64 j] 56)).alloc (.cells #[.int .u8 x.k, .int .u16 x.l, .int .u32 x.s, .int .u16 x.d0, .int .u16 x.d1, .int .u16 x.d2, .int .u16 x.d3, .int .u16 x.n] 61)).alloc (.cells #[.int .u16 x.d0, .int .u16 x.d1, .int .u16 x.d2, .int .u16 x.d3] 59) = W1 := ⟨_, rfl⟩
    have b3 : W1.heap[w.heap.size]? = some (.cells #[.int .i64 i, .int .i64 b, .int .i64 j] 56 (0, 0)) := by rw [← hW1, hp_old _ _ (by simp; omega), hp_old _ _ (by simp), hp_new _ _ rfl]
    have b4 : W1.heap[w.heap.size + 1]? = some (.cells #[.int .u8 x.k, .int .u16 x.l, .int .u32 x.s, .int .u16 x.d0, .int .u16 x.d1, .int .u16 x.d2, .int .u16 x.d3, .int .u16 x.n] 61 (0, 0)) := by rw [← hW1, hp_old _ _ (by simp), hp_new _ _ (by simp)]
    have b7 : W1.heap[w.heap.size + 1 + 1]? = some (.cells #[.int .u16 x.d0, .int .u16 x.d1, .int .u16 x.d2, .int .u16 x.d3] 59 (0, 0)) := by rw [← hW1, hp_new _ _ (by simp)]
    have hB : Below w.heap.size w W1 := by rw [← hW1]; exact bal (bal (bnew _ _) _) _
    simp only [hW1]
    clear hW1
    refine (HM.out _).mono ?_
    rintro e w2 ⟨rfl, hB2⟩
    replace hB := bt hB hB2
    replace b3 := bblk hB2 b3
    replace b4 := bblk hB2 b4
    replace b7 := bblk hB2 b7
    clear hB2
    have g0 := cl_of b3 0
    have g1 := cl_of b3 1
    have g2 := cl_of b3 2
    have q7 := cl_of b4 7
    have d0 := cl_of b7 0
    have d1 := cl_of b7 1
    have d2 := cl_of b7 2
    have d3 := cl_of b7 3
    go_wp2_with fail
    refine (has9_any v h0 h1 false (decide_eq_false (p := v ≤ b) (by have := H0.out; omega)) _).mono ?_
    rintro e w3 ⟨rfl, hB3⟩
    clear g0 g1 g2 q7 d0 d1 d2 d3
    replace hB := bt hB hB3
    replace b3 := bblk hB3 b3
    replace b4 := bblk hB3 b4
    replace b7 := bblk hB3 b7
    clear hB3
    have g0 := cl_of b3 0
    have g1 := cl_of b3 1
    have g2 := cl_of b3 2
    have q7 := cl_of b4 7
    have d0 := cl_of b7 0
    have d1 := cl_of b7 1
    have d2 := cl_of b7 2
    have d3 := cl_of b7 3
    go_wp2_with fail
    go_ret
    exact ⟨rfl, hB⟩
  have H0 := Lib.hid h0'
  clear h0'
  by_cases h1' : x.d0 ≤ b
  rotate_left
  · have H1 : Hid (¬ x.d0 ≤ b) := Lib.hid (by omega)
    obtain rfl : r = false := by
      rw [Bool.eq_false_iff]
      intro e
      have hm := HR.out.1 e
      exact absurd (hm.d 0 (by decide)) H1.out
    clear h1' HR
    go_enter Tryz.func92, Tryz.ntmps92
    go_wp2_with fail
    obtain ⟨W1, hW1⟩ : ∃ W1, ((w.alloc (.cells #[.int .i64 i, .int .i64 b, .int .i64 j] 56)).alloc (.cells #[.int .u8 x.k, .int .u16 x.l, .int .u32 x.s, .int .u16 x.d0, .int .u16 x.d1, .int .u16 x.d2, .int .u16 x.d3, .int .u16 x.n] 61)).alloc (.cells #[.int .u16 x.d0, .int .u16 x.d1, .int .u16 x.d2, .int .u16 x.d3] 59) = W1 := ⟨_, rfl⟩
    have b3 : W1.heap[w.heap.size]? = some (.cells #[.int .i64 i, .int .i64 b, .int .i64 j] 56 (0, 0)) := by rw [← hW1, hp_old _ _ (by simp; omega), hp_old _ _ (by simp), hp_new _ _ rfl]
    have b4 : W1.heap[w.heap.size + 1]? = some (.cells #[.int .u8 x.k, .int .u16 x.l, .int .u32 x.s, .int .u16 x.d0, .int .u16 x.d1, .int .u16 x.d2, .int .u16 x.d3, .int .u16 x.n] 61 (0, 0)) := by rw [← hW1, hp_old _ _ (by simp), hp_new _ _ (by simp)]
    have b7 : W1.heap[w.heap.size + 1 + 1]? = some (.cells #[.int .u16 x.d0, .int .u16 x.d1, .int .u16 x.d2, .int .u16 x.d3] 59 (0, 0)) := by rw [← hW1, hp_new _ _ (by simp)]
    have hB : Below w.heap.size w W1 := by rw [← hW1]; exact bal (bal (bnew _ _) _) _
    simp only [hW1]
    clear hW1
    refine (HM.out _).mono ?_
    rintro e w2 ⟨rfl, hB2⟩
    replace hB := bt hB hB2
    replace b3 := bblk hB2 b3
    replace b4 := bblk hB2 b4
    replace b7 := bblk hB2 b7
    clear hB2
    have g0 := cl_of b3 0
    have g1 := cl_of b3 1
    have g2 := cl_of b3 2
    have q7 := cl_of b4 7
    have d0 := cl_of b7 0
    have d1 := cl_of b7 1
    have d2 := cl_of b7 2
    have d3 := cl_of b7 3
    go_wp2_with fail
    refine (has9_any v h0 h1 true (decide_eq_true H0.out) _).mono ?_
    rintro e w3 ⟨rfl, hB3⟩
    clear g0 g1 g2 q7 d0 d1 d2 d3
    replace hB := bt hB hB3
    replace b3 := bblk hB3 b3
    replace b4 := bblk hB3 b4
    replace b7 := bblk hB3 b7
    clear hB3
    have g0 := cl_of b3 0
    have g1 := cl_of b3 1
    have g2 := cl_of b3 2
    have q7 := cl_of b4 7
    have d0 := cl_of b7 0
    have d1 := cl_of b7 1
    have d2 := cl_of b7 2
    have d3 := cl_of b7 3
    go_wp2_with fail
    refine (has9_any x.d0 HX.out.d0.1 HX.out.d0.2 false (decide_eq_false (p := x.d0 ≤ b) (by have := H1.out; omega)) _).mono ?_
    rintro e w4 ⟨rfl, hB4⟩
    clear g0 g1 g2 q7 d0 d1 d2 d3
    replace hB := bt hB hB4
    replace b3 := bblk hB4 b3
    replace b4 := bblk hB4 b4
    replace b7 := bblk hB4 b7
    clear hB4
    have g0 := cl_of b3 0
    have g1 := cl_of b3 1
    have g2 := cl_of b3 2
    have q7 := cl_of b4 7
    have d0 := cl_of b7 0
    have d1 := cl_of b7 1
    have d2 := cl_of b7 2
    have d3 := cl_of b7 3
    go_wp2_with fail
    go_ret
    exact ⟨rfl, hB⟩
  have H1 := Lib.hid h1'
  clear h1'
  by_cases h2' : x.d1 ≤ b
  rotate_left
  · have H2 : Hid (¬ x.d1 ≤ b) := Lib.hid (by omega)
    obtain rfl : r = false := by
      rw [Bool.eq_false_iff]
      intro e
      have hm := HR.out.1 e
      exact absurd (hm.d 1 (by decide)) H2.out
    clear h2' HR
    go_enter Tryz.func92, Tryz.ntmps92
    go_wp2_with fail
    obtain ⟨W1, hW1⟩ : ∃ W1, ((w.alloc (.cells #[.int .i64 i, .int .i64 b, .int .i64 j] 56)).alloc (.cells #[.int .u8 x.k, .int .u16 x.l, .int .u32 x.s, .int .u16 x.d0, .int .u16 x.d1, .int .u16 x.d2, .int .u16 x.d3, .int .u16 x.n] 61)).alloc (.cells #[.int .u16 x.d0, .int .u16 x.d1, .int .u16 x.d2, .int .u16 x.d3] 59) = W1 := ⟨_, rfl⟩
    have b3 : W1.heap[w.heap.size]? = some (.cells #[.int .i64 i, .int .i64 b, .int .i64 j] 56 (0, 0)) := by rw [← hW1, hp_old _ _ (by simp; omega), hp_old _ _ (by simp), hp_new _ _ rfl]
    have b4 : W1.heap[w.heap.size + 1]? = some (.cells #[.int .u8 x.k, .int .u16 x.l, .int .u32 x.s, .int .u16 x.d0, .int .u16 x.d1, .int .u16 x.d2, .int .u16 x.d3, .int .u16 x.n] 61 (0, 0)) := by rw [← hW1, hp_old _ _ (by simp), hp_new _ _ (by simp)]
    have b7 : W1.heap[w.heap.size + 1 + 1]? = some (.cells #[.int .u16 x.d0, .int .u16 x.d1, .int .u16 x.d2, .int .u16 x.d3] 59 (0, 0)) := by rw [← hW1, hp_new _ _ (by simp)]
    have hB : Below w.heap.size w W1 := by rw [← hW1]; exact bal (bal (bnew _ _) _) _
    simp only [hW1]
    clear hW1
    refine (HM.out _).mono ?_
    rintro e w2 ⟨rfl, hB2⟩
    replace hB := bt hB hB2
    replace b3 := bblk hB2 b3
    replace b4 := bblk hB2 b4
    replace b7 := bblk hB2 b7
    clear hB2
    have g0 := cl_of b3 0
    have g1 := cl_of b3 1
    have g2 := cl_of b3 2
    have q7 := cl_of b4 7
    have d0 := cl_of b7 0
    have d1 := cl_of b7 1
    have d2 := cl_of b7 2
    have d3 := cl_of b7 3
    go_wp2_with fail
    refine (has9_any v h0 h1 true (decide_eq_true H0.out) _).mono ?_
    rintro e w3 ⟨rfl, hB3⟩
    clear g0 g1 g2 q7 d0 d1 d2 d3
    replace hB := bt hB hB3
    replace b3 := bblk hB3 b3
    replace b4 := bblk hB3 b4
    replace b7 := bblk hB3 b7
    clear hB3
    have g0 := cl_of b3 0
    have g1 := cl_of b3 1
    have g2 := cl_of b3 2
    have q7 := cl_of b4 7
    have d0 := cl_of b7 0
    have d1 := cl_of b7 1
    have d2 := cl_of b7 2
    have d3 := cl_of b7 3
    go_wp2_with fail
    refine (has9_any x.d0 HX.out.d0.1 HX.out.d0.2 true (decide_eq_true H1.out) _).mono ?_
    rintro e w4 ⟨rfl, hB4⟩
    clear g0 g1 g2 q7 d0 d1 d2 d3
    replace hB := bt hB hB4
    replace b3 := bblk hB4 b3
    replace b4 := bblk hB4 b4
    replace b7 := bblk hB4 b7
    clear hB4
    have g0 := cl_of b3 0
    have g1 := cl_of b3 1
    have g2 := cl_of b3 2
    have q7 := cl_of b4 7
    have d0 := cl_of b7 0
    have d1 := cl_of b7 1
    have d2 := cl_of b7 2
    have d3 := cl_of b7 3
    go_wp2_with fail
    refine (has9_any x.d1 HX.out.d1.1 HX.out.d1.2 false (decide_eq_false (p := x.d1 ≤ b) (by have := H2.out; omega)) _).mono ?_
    rintro e w5 ⟨rfl, hB5⟩
    clear g0 g1 g2 q7 d0 d1 d2 d3
    replace hB := bt hB hB5
    replace b3 := bblk hB5 b3
    replace b4 := bblk hB5 b4
    replace b7 := bblk hB5 b7
    clear hB5
    have g0 := cl_of b3 0
    have g1 := cl_of b3 1
    have g2 := cl_of b3 2
    have q7 := cl_of b4 7
    have d0 := cl_of b7 0
    have d1 := cl_of b7 1
    have d2 := cl_of b7 2
    have d3 := cl_of b7 3
    go_wp2_with fail
    go_ret
    exact ⟨rfl, hB⟩
  have H2 := Lib.hid h2'
  clear h2'
  by_cases h3' : x.d2 ≤ b
  rotate_left
  · have H3 : Hid (¬ x.d2 ≤ b) := Lib.hid (by omega)
    obtain rfl : r = false := by
      rw [Bool.eq_false_iff]
      intro e
      have hm := HR.out.1 e
      exact absurd (hm.d 2 (by decide)) H3.out
    clear h3' HR
    go_enter Tryz.func92, Tryz.ntmps92
    go_wp2_with fail
    obtain ⟨W1, hW1⟩ : ∃ W1, ((w.alloc (.cells #[.int .i64 i, .int .i64 b, .int .i64 j] 56)).alloc (.cells #[.int .u8 x.k, .int .u16 x.l, .int .u32 x.s, .int .u16 x.d0, .int .u16 x.d1, .int .u16 x.d2, .int .u16 x.d3, .int .u16 x.n] 61)).alloc (.cells #[.int .u16 x.d0, .int .u16 x.d1, .int .u16 x.d2, .int .u16 x.d3] 59) = W1 := ⟨_, rfl⟩
    have b3 : W1.heap[w.heap.size]? = some (.cells #[.int .i64 i, .int .i64 b, .int .i64 j] 56 (0, 0)) := by rw [← hW1, hp_old _ _ (by simp; omega), hp_old _ _ (by simp), hp_new _ _ rfl]
    have b4 : W1.heap[w.heap.size + 1]? = some (.cells #[.int .u8 x.k, .int .u16 x.l, .int .u32 x.s, .int .u16 x.d0, .int .u16 x.d1, .int .u16 x.d2, .int .u16 x.d3, .int .u16 x.n] 61 (0, 0)) := by rw [← hW1, hp_old _ _ (by simp), hp_new _ _ (by simp)]
    have b7 : W1.heap[w.heap.size + 1 + 1]? = some (.cells #[.int .u16 x.d0, .int .u16 x.d1, .int .u16 x.d2, .int .u16 x.d3] 59 (0, 0)) := by rw [← hW1, hp_new _ _ (by simp)]
    have hB : Below w.heap.size w W1 := by rw [← hW1]; exact bal (bal (bnew _ _) _) _
    simp only [hW1]
    clear hW1
    refine (HM.out _).mono ?_
    rintro e w2 ⟨rfl, hB2⟩
    replace hB := bt hB hB2
    replace b3 := bblk hB2 b3
    replace b4 := bblk hB2 b4
    replace b7 := bblk hB2 b7
    clear hB2
    have g0 := cl_of b3 0
    have g1 := cl_of b3 1
    have g2 := cl_of b3 2
    have q7 := cl_of b4 7
    have d0 := cl_of b7 0
    have d1 := cl_of b7 1
    have d2 := cl_of b7 2
    have d3 := cl_of b7 3
    go_wp2_with fail
    refine (has9_any v h0 h1 true (decide_eq_true H0.out) _).mono ?_
    rintro e w3 ⟨rfl, hB3⟩
    clear g0 g1 g2 q7 d0 d1 d2 d3
    replace hB := bt hB hB3
    replace b3 := bblk hB3 b3
    replace b4 := bblk hB3 b4
    replace b7 := bblk hB3 b7
    clear hB3
    have g0 := cl_of b3 0
    have g1 := cl_of b3 1
    have g2 := cl_of b3 2
    have q7 := cl_of b4 7
    have d0 := cl_of b7 0
    have d1 := cl_of b7 1
    have d2 := cl_of b7 2
    have d3 := cl_of b7 3
    go_wp2_with fail
    refine (has9_any x.d0 HX.out.d0.1 HX.out.d0.2 true (decide_eq_true H1.out) _).mono ?_
    rintro e w4 ⟨rfl, hB4⟩
    clear g0 g1 g2 q7 d0 d1 d2 d3
    replace hB := bt hB hB4
    replace b3 := bblk hB4 b3
    replace b4 := bblk hB4 b4
    replace b7 := bblk hB4 b7
    clear hB4
    have g0 := cl_of b3 0
    have g1 := cl_of b3 1
    have g2 := cl_of b3 2
    have q7 := cl_of b4 7
    have d0 := cl_of b7 0
    have d1 := cl_of b7 1
    have d2 := cl_of b7 2
    have d3 := cl_of b7 3
    go_wp2_with fail
    refine (has9_any x.d1 HX.out.d1.1 HX.out.d1.2 true (decide_eq_true H2.out) _).mono ?_
    rintro e w5 ⟨rfl, hB5⟩
    clear g0 g1 g2 q7 d0 d1 d2 d3
    replace hB := bt hB hB5
    replace b3 := bblk hB5 b3
    replace b4 := bblk hB5 b4
    replace b7 := bblk hB5 b7
    clear hB5
    have g0 := cl_of b3 0
    have g1 := cl_of b3 1
    have g2 := cl_of b3 2
    have q7 := cl_of b4 7
    have d0 := cl_of b7 0
    have d1 := cl_of b7 1
    have d2 := cl_of b7 2
    have d3 := cl_of b7 3
    go_wp2_with fail
    refine (has9_any x.d2 HX.out.d2.1 HX.out.d2.2 false (decide_eq_false (p := x.d2 ≤ b) (by have := H3.out; omega)) _).mono ?_
    rintro e w6 ⟨rfl, hB6⟩
    clear g0 g1 g2 q7 d0 d1 d2 d3
    replace hB := bt hB hB6
    replace b3 := bblk hB6 b3
    replace b4 := bblk hB6 b4
    replace b7 := bblk hB6 b7
    clear hB6
    have g0 := cl_of b3 0
    have g1 := cl_of b3 1
    have g2 := cl_of b3 2
    have q7 := cl_of b4 7
    have d0 := cl_of b7 0
    have d1 := cl_of b7 1
    have d2 := cl_of b7 2
    have d3 := cl_of b7 3
    go_wp2_with fail
    go_ret
    exact ⟨rfl, hB⟩
  have H3 := Lib.hid h3'
  clear h3'
  by_cases h4' : x.d3 ≤ b
  rotate_left
  · have H4 : Hid (¬ x.d3 ≤ b) := Lib.hid (by omega)
    obtain rfl : r = false := by
      rw [Bool.eq_false_iff]
      intro e
      have hm := HR.out.1 e
      exact absurd (hm.d 3 (by decide)) H4.out
    clear h4' HR
    go_enter Tryz.func92, Tryz.ntmps92
    go_wp2_with fail
    obtain ⟨W1, hW1⟩ : ∃ W1, ((w.alloc (.cells #[.int .i64 i, .int .i64 b, .int .i64 j] 56)).alloc (.cells #[.int .u8 x.k, .int .u16 x.l, .int .u32 x.s, .int .u16 x.d0, .int .u16 x.d1, .int .u16 x.d2, .int .u16 x.d3, .int .u16 x.n] 61)).alloc (.cells #[.int .u16 x.d0, .int .u16 x.d1, .int .u16 x.d2, .int .u16 x.d3] 59) = W1 := ⟨_, rfl⟩
    have b3 : W1.heap[w.heap.size]? = some (.cells #[.int .i64 i, .int .i64 b, .int .i64 j] 56 (0, 0)) := by rw [← hW1, hp_old _ _ (by simp; omega), hp_old _ _ (by simp), hp_new _ _ rfl]
    have b4 : W1.heap[w.heap.size + 1]? = some (.cells #[.int .u8 x.k, .int .u16 x.l, .int .u32 x.s, .int .u16 x.d0, .int .u16 x.d1, .int .u16 x.d2, .int .u16 x.d3, .int .u16 x.n] 61 (0, 0)) := by rw [← hW1, hp_old _ _ (by simp), hp_new _ _ (by simp)]
    have b7 : W1.heap[w.heap.size + 1 + 1]? = some (.cells #[.int .u16 x.d0, .int .u16 x.d1, .int .u16 x.d2, .int .u16 x.d3] 59 (0, 0)) := by rw [← hW1, hp_new _ _ (by simp)]
    have hB : Below w.heap.size w W1 := by rw [← hW1]; exact bal (bal (bnew _ _) _) _
    simp only [hW1]
    clear hW1
    refine (HM.out _).mono ?_
    rintro e w2 ⟨rfl, hB2⟩
    replace hB := bt hB hB2
    replace b3 := bblk hB2 b3
    replace b4 := bblk hB2 b4
    replace b7 := bblk hB2 b7
    clear hB2
    have g0 := cl_of b3 0
    have g1 := cl_of b3 1
    have g2 := cl_of b3 2
    have q7 := cl_of b4 7
    have d0 := cl_of b7 0
    have d1 := cl_of b7 1
    have d2 := cl_of b7 2
    have d3 := cl_of b7 3
    go_wp2_with fail
    refine (has9_any v h0 h1 true (decide_eq_true H0.out) _).mono ?_
    rintro e w3 ⟨rfl, hB3⟩
    clear g0 g1 g2 q7 d0 d1 d2 d3
    replace hB := bt hB hB3
    replace b3 := bblk hB3 b3
    replace b4 := bblk hB3 b4
    replace b7 := bblk hB3 b7
    clear hB3
    have g0 := cl_of b3 0
    have g1 := cl_of b3 1
    have g2 := cl_of b3 2
    have q7 := cl_of b4 7
    have d0 := cl_of b7 0
    have d1 := cl_of b7 1
    have d2 := cl_of b7 2
    have d3 := cl_of b7 3
    go_wp2_with fail
    refine (has9_any x.d0 HX.out.d0.1 HX.out.d0.2 true (decide_eq_true H1.out) _).mono ?_
    rintro e w4 ⟨rfl, hB4⟩
    clear g0 g1 g2 q7 d0 d1 d2 d3
    replace hB := bt hB hB4
    replace b3 := bblk hB4 b3
    replace b4 := bblk hB4 b4
    replace b7 := bblk hB4 b7
    clear hB4
    have g0 := cl_of b3 0
    have g1 := cl_of b3 1
    have g2 := cl_of b3 2
    have q7 := cl_of b4 7
    have d0 := cl_of b7 0
    have d1 := cl_of b7 1
    have d2 := cl_of b7 2
    have d3 := cl_of b7 3
    go_wp2_with fail
    refine (has9_any x.d1 HX.out.d1.1 HX.out.d1.2 true (decide_eq_true H2.out) _).mono ?_
    rintro e w5 ⟨rfl, hB5⟩
    clear g0 g1 g2 q7 d0 d1 d2 d3
    replace hB := bt hB hB5
    replace b3 := bblk hB5 b3
    replace b4 := bblk hB5 b4
    replace b7 := bblk hB5 b7
    clear hB5
    have g0 := cl_of b3 0
    have g1 := cl_of b3 1
    have g2 := cl_of b3 2
    have q7 := cl_of b4 7
    have d0 := cl_of b7 0
    have d1 := cl_of b7 1
    have d2 := cl_of b7 2
    have d3 := cl_of b7 3
    go_wp2_with fail
    refine (has9_any x.d2 HX.out.d2.1 HX.out.d2.2 true (decide_eq_true H3.out) _).mono ?_
    rintro e w6 ⟨rfl, hB6⟩
    clear g0 g1 g2 q7 d0 d1 d2 d3
    replace hB := bt hB hB6
    replace b3 := bblk hB6 b3
    replace b4 := bblk hB6 b4
    replace b7 := bblk hB6 b7
    clear hB6
    have g0 := cl_of b3 0
    have g1 := cl_of b3 1
    have g2 := cl_of b3 2
    have q7 := cl_of b4 7
    have d0 := cl_of b7 0
    have d1 := cl_of b7 1
    have d2 := cl_of b7 2
    have d3 := cl_of b7 3
    go_wp2_with fail
    refine (has9_any x.d3 HX.out.d3.1 HX.out.d3.2 false (decide_eq_false (p := x.d3 ≤ b) (by have := H4.out; omega)) _).mono ?_
    rintro e w7 ⟨rfl, hB7⟩
    clear g0 g1 g2 q7 d0 d1 d2 d3
    replace hB := bt hB hB7
    replace b3 := bblk hB7 b3
    replace b4 := bblk hB7 b4
    replace b7 := bblk hB7 b7
    clear hB7
    have g0 := cl_of b3 0
    have g1 := cl_of b3 1
    have g2 := cl_of b3 2
    have q7 := cl_of b4 7
    have d0 := cl_of b7 0
    have d1 := cl_of b7 1
    have d2 := cl_of b7 2
    have d3 := cl_of b7 3
    go_wp2_with fail
    go_ret
    exact ⟨rfl, hB⟩
  have H4 := Lib.hid h4'
  clear h4'
  by_cases h5' : x.n ≤ b
  rotate_left
  · have H5 : Hid (¬ x.n ≤ b) := Lib.hid (by omega)
    obtain rfl : r = false := by
      rw [Bool.eq_false_iff]
      intro e
      have hm := HR.out.1 e
      exact absurd hm.n H5.out
    clear h5' HR
    go_enter Tryz.func92, Tryz.ntmps92
    go_wp2_with fail
    obtain ⟨W1, hW1⟩ : ∃ W1, ((w.alloc (.cells #[.int .i64 i, .int .i64 b, .int .i64 j] 56)).alloc (.cells #[.int .u8 x.k, .int .u16 x.l, .int .u32 x.s, .int .u16 x.d0, .int .u16 x.d1, .int .u16 x.d2, .int .u16 x.d3, .int .u16 x.n] 61)).alloc (.cells #[.int .u16 x.d0, .int .u16 x.d1, .int .u16 x.d2, .int .u16 x.d3] 59) = W1 := ⟨_, rfl⟩
    have b3 : W1.heap[w.heap.size]? = some (.cells #[.int .i64 i, .int .i64 b, .int .i64 j] 56 (0, 0)) := by rw [← hW1, hp_old _ _ (by simp; omega), hp_old _ _ (by simp), hp_new _ _ rfl]
    have b4 : W1.heap[w.heap.size + 1]? = some (.cells #[.int .u8 x.k, .int .u16 x.l, .int .u32 x.s, .int .u16 x.d0, .int .u16 x.d1, .int .u16 x.d2, .int .u16 x.d3, .int .u16 x.n] 61 (0, 0)) := by rw [← hW1, hp_old _ _ (by simp), hp_new _ _ (by simp)]
    have b7 : W1.heap[w.heap.size + 1 + 1]? = some (.cells #[.int .u16 x.d0, .int .u16 x.d1, .int .u16 x.d2, .int .u16 x.d3] 59 (0, 0)) := by rw [← hW1, hp_new _ _ (by simp)]
    have hB : Below w.heap.size w W1 := by rw [← hW1]; exact bal (bal (bnew _ _) _) _
    simp only [hW1]
    clear hW1
    refine (HM.out _).mono ?_
    rintro e w2 ⟨rfl, hB2⟩
    replace hB := bt hB hB2
    replace b3 := bblk hB2 b3
    replace b4 := bblk hB2 b4
    replace b7 := bblk hB2 b7
    clear hB2
    have g0 := cl_of b3 0
    have g1 := cl_of b3 1
    have g2 := cl_of b3 2
    have q7 := cl_of b4 7
    have d0 := cl_of b7 0
    have d1 := cl_of b7 1
    have d2 := cl_of b7 2
    have d3 := cl_of b7 3
    go_wp2_with fail
    refine (has9_any v h0 h1 true (decide_eq_true H0.out) _).mono ?_
    rintro e w3 ⟨rfl, hB3⟩
    clear g0 g1 g2 q7 d0 d1 d2 d3
    replace hB := bt hB hB3
    replace b3 := bblk hB3 b3
    replace b4 := bblk hB3 b4
    replace b7 := bblk hB3 b7
    clear hB3
    have g0 := cl_of b3 0
    have g1 := cl_of b3 1
    have g2 := cl_of b3 2
    have q7 := cl_of b4 7
    have d0 := cl_of b7 0
    have d1 := cl_of b7 1
    have d2 := cl_of b7 2
    have d3 := cl_of b7 3
    go_wp2_with fail
    refine (has9_any x.d0 HX.out.d0.1 HX.out.d0.2 true (decide_eq_true H1.out) _).mono ?_
    rintro e w4 ⟨rfl, hB4⟩
    clear g0 g1 g2 q7 d0 d1 d2 d3
    replace hB := bt hB hB4
    replace b3 := bblk hB4 b3
    replace b4 := bblk hB4 b4
    replace b7 := bblk hB4 b7
    clear hB4
    have g0 := cl_of b3 0
    have g1 := cl_of b3 1
    have g2 := cl_of b3 2
    have q7 := cl_of b4 7
    have d0 := cl_of b7 0
    have d1 := cl_of b7 1
    have d2 := cl_of b7 2
    have d3 := cl_of b7 3
    go_wp2_with fail
    refine (has9_any x.d1 HX.out.d1.1 HX.out.d1.2 true (decide_eq_true H2.out) _).mono ?_
    rintro e w5 ⟨rfl, hB5⟩
    clear g0 g1 g2 q7 d0 d1 d2 d3
    replace hB := bt hB hB5
    replace b3 := bblk hB5 b3
    replace b4 := bblk hB5 b4
    replace b7 := bblk hB5 b7
    clear hB5
    have g0 := cl_of b3 0
    have g1 := cl_of b3 1
    have g2 := cl_of b3 2
    have q7 := cl_of b4 7
    have d0 := cl_of b7 0
    have d1 := cl_of b7 1
    have d2 := cl_of b7 2
    have d3 := cl_of b7 3
    go_wp2_with fail
    refine (has9_any x.d2 HX.out.d2.1 HX.out.d2.2 true (decide_eq_true H3.out) _).mono ?_
    rintro e w6 ⟨rfl, hB6⟩
    clear g0 g1 g2 q7 d0 d1 d2 d3
    replace hB := bt hB hB6
    replace b3 := bblk hB6 b3
    replace b4 := bblk hB6 b4
    replace b7 := bblk hB6 b7
    clear hB6
    have g0 := cl_of b3 0
    have g1 := cl_of b3 1
    have g2 := cl_of b3 2
    have q7 := cl_of b4 7
    have d0 := cl_of b7 0
    have d1 := cl_of b7 1
    have d2 := cl_of b7 2
    have d3 := cl_of b7 3
    go_wp2_with fail
    refine (has9_any x.d3 HX.out.d3.1 HX.out.d3.2 true (decide_eq_true H4.out) _).mono ?_
    rintro e w7 ⟨rfl, hB7⟩
    clear g0 g1 g2 q7 d0 d1 d2 d3
    replace hB := bt hB hB7
    replace b3 := bblk hB7 b3
    replace b4 := bblk hB7 b4
    replace b7 := bblk hB7 b7
    clear hB7
    have g0 := cl_of b3 0
    have g1 := cl_of b3 1
    have g2 := cl_of b3 2
    have q7 := cl_of b4 7
    have d0 := cl_of b7 0
    have d1 := cl_of b7 1
    have d2 := cl_of b7 2
    have d3 := cl_of b7 3
    go_wp2_with fail
    refine (has9_any x.n HX.out.n.1 HX.out.n.2 false (decide_eq_false (p := x.n ≤ b) (by have := H5.out; omega)) _).mono ?_
    rintro e w8 ⟨rfl, hB8⟩
    clear g0 g1 g2 q7 d0 d1 d2 d3
    replace hB := bt hB hB8
    replace b3 := bblk hB8 b3
    replace b4 := bblk hB8 b4
    replace b7 := bblk hB8 b7
    clear hB8
    have g0 := cl_of b3 0
    have g1 := cl_of b3 1
    have g2 := cl_of b3 2
    have q7 := cl_of b4 7
    have d0 := cl_of b7 0
    have d1 := cl_of b7 1
    have d2 := cl_of b7 2
    have d3 := cl_of b7 3
    go_wp2_with fail
    go_ret
    exact ⟨rfl, hB⟩
  have H5 := Lib.hid h5'
  clear h5'
  obtain rfl : r = true := HR.out.2 ⟨HG.out, H0.out, H5.out, fun k hk => by
    have : k = 0 ∨ k = 1 ∨ k = 2 ∨ k = 3 := by omega
    rcases this with rfl | rfl | rfl | rfl
    · exact H1.out
    · exact H2.out
    · exact H3.out
    · exact H4.out⟩
  clear HR
  go_enter Tryz.func92, Tryz.ntmps92
  go_wp2_with fail
  obtain ⟨W1, hW1⟩ : ∃ W1, ((w.alloc (.cells #[.int .i64 i, .int .i64 b, .int .i64 j] 56)).alloc (.cells #[.int .u8 x.k, .int .u16 x.l, .int .u32 x.s, .int .u16 x.d0, .int .u16 x.d1, .int .u16 x.d2, .int .u16 x.d3, .int .u16 x.n] 61)).alloc (.cells #[.int .u16 x.d0, .int .u16 x.d1, .int .u16 x.d2, .int .u16 x.d3] 59) = W1 := ⟨_, rfl⟩
  have b3 : W1.heap[w.heap.size]? = some (.cells #[.int .i64 i, .int .i64 b, .int .i64 j] 56 (0, 0)) := by rw [← hW1, hp_old _ _ (by simp; omega), hp_old _ _ (by simp), hp_new _ _ rfl]
  have b4 : W1.heap[w.heap.size + 1]? = some (.cells #[.int .u8 x.k, .int .u16 x.l, .int .u32 x.s, .int .u16 x.d0, .int .u16 x.d1, .int .u16 x.d2, .int .u16 x.d3, .int .u16 x.n] 61 (0, 0)) := by rw [← hW1, hp_old _ _ (by simp), hp_new _ _ (by simp)]
  have b7 : W1.heap[w.heap.size + 1 + 1]? = some (.cells #[.int .u16 x.d0, .int .u16 x.d1, .int .u16 x.d2, .int .u16 x.d3] 59 (0, 0)) := by rw [← hW1, hp_new _ _ (by simp)]
  have hB : Below w.heap.size w W1 := by rw [← hW1]; exact bal (bal (bnew _ _) _) _
  simp only [hW1]
  clear hW1
  refine (HM.out _).mono ?_
  rintro e w2 ⟨rfl, hB2⟩
  replace hB := bt hB hB2
  replace b3 := bblk hB2 b3
  replace b4 := bblk hB2 b4
  replace b7 := bblk hB2 b7
  clear hB2
  have g0 := cl_of b3 0
  have g1 := cl_of b3 1
  have g2 := cl_of b3 2
  have q7 := cl_of b4 7
  have d0 := cl_of b7 0
  have d1 := cl_of b7 1
  have d2 := cl_of b7 2
  have d3 := cl_of b7 3
  go_wp2_with fail
  refine (has9_any v h0 h1 true (decide_eq_true H0.out) _).mono ?_
  rintro e w3 ⟨rfl, hB3⟩
  clear g0 g1 g2 q7 d0 d1 d2 d3
  replace hB := bt hB hB3
  replace b3 := bblk hB3 b3
  replace b4 := bblk hB3 b4
  replace b7 := bblk hB3 b7
  clear hB3
  have g0 := cl_of b3 0
  have g1 := cl_of b3 1
  have g2 := cl_of b3 2
  have q7 := cl_of b4 7
  have d0 := cl_of b7 0
  have d1 := cl_of b7 1
  have d2 := cl_of b7 2
  have d3 := cl_of b7 3
  go_wp2_with fail
  refine (has9_any x.d0 HX.out.d0.1 HX.out.d0.2 true (decide_eq_true H1.out) _).mono ?_
  rintro e w4 ⟨rfl, hB4⟩
  clear g0 g1 g2 q7 d0 d1 d2 d3
  replace hB := bt hB hB4
  replace b3 := bblk hB4 b3
  replace b4 := bblk hB4 b4
  replace b7 := bblk hB4 b7
  clear hB4
  have g0 := cl_of b3 0
  have g1 := cl_of b3 1
  have g2 := cl_of b3 2
  have q7 := cl_of b4 7
  have d0 := cl_of b7 0
  have d1 := cl_of b7 1
  have d2 := cl_of b7 2
  have d3 := cl_of b7 3
  go_wp2_with fail
  refine (has9_any x.d1 HX.out.d1.1 HX.out.d1.2 true (decide_eq_true H2.out) _).mono ?_
  rintro e w5 ⟨rfl, hB5⟩
  clear g0 g1 g2 q7 d0 d1 d2 d3
  replace hB := bt hB hB5
  replace b3 := bblk hB5 b3
  replace b4 := bblk hB5 b4
  replace b7 := bblk hB5 b7
  clear hB5
  have g0 := cl_of b3 0
  have g1 := cl_of b3 1
  have g2 := cl_of b3 2
  have q7 := cl_of b4 7
  have d0 := cl_of b7 0
  have d1 := cl_of b7 1
  have d2 := cl_of b7 2
  have d3 := cl_of b7 3
  go_wp2_with fail
  refine (has9_any x.d2 HX.out.d2.1 HX.out.d2.2 true (decide_eq_true H3.out) _).mono ?_
  rintro e w6 ⟨rfl, hB6⟩
  clear g0 g1 g2 q7 d0 d1 d2 d3
  replace hB := bt hB hB6
  replace b3 := bblk hB6 b3
  replace b4 := bblk hB6 b4
  replace b7 := bblk hB6 b7
  clear hB6
  have g0 := cl_of b3 0
  have g1 := cl_of b3 1
  have g2 := cl_of b3 2
  have q7 := cl_of b4 7
  have d0 := cl_of b7 0
  have d1 := cl_of b7 1
  have d2 := cl_of b7 2
  have d3 := cl_of b7 3
  go_wp2_with fail
  refine (has9_any x.d3 HX.out.d3.1 HX.out.d3.2 true (decide_eq_true H4.out) _).mono ?_
  rintro e w7 ⟨rfl, hB7⟩
  clear g0 g1 g2 q7 d0 d1 d2 d3
  replace hB := bt hB hB7
  replace b3 := bblk hB7 b3
  replace b4 := bblk hB7 b4
  replace b7 := bblk hB7 b7
  clear hB7
  have g0 := cl_of b3 0
  have g1 := cl_of b3 1
  have g2 := cl_of b3 2
  have q7 := cl_of b4 7
  have d0 := cl_of b7 0
  have d1 := cl_of b7 1
  have d2 := cl_of b7 2
  have d3 := cl_of b7 3
  go_wp2_with fail
  refine (has9_any x.n HX.out.n.1 HX.out.n.2 true (decide_eq_true H5.out) _).mono ?_
  rintro e w8 ⟨rfl, hB8⟩
  clear g0 g1 g2 q7 d0 d1 d2 d3
  replace hB := bt hB hB8
  replace b3 := bblk hB8 b3
  replace b4 := bblk hB8 b4
  replace b7 := bblk hB8 b7
  clear hB8
  have g0 := cl_of b3 0
  have g1 := cl_of b3 1
  have g2 := cl_of b3 2
  have q7 := cl_of b4 7
  have d0 := cl_of b7 0
  have d1 := cl_of b7 1
  have d2 := cl_of b7 2
  have d3 := cl_of b7 3
  go_wp2_with fail
  go_ret
  exact ⟨rfl, hB⟩

/-! The document's transaction over sectors of noughts. -/
structure RtS (W : World) (rb sb N : Nat) (M : Wl) (Z : Nat → Prop) : Prop where
  rt : RtX W rb (.slice (some ⟨sb, 0, none⟩) N N) M 37 false Z
  row : W.heap[sb]? = some (.cells (Array.replicate N (.string zsec)) 9 (0, 0))
section
variable {W W' : World} {rb sb N : Nat} {M : Wl} {Z : Nat → Prop}
theorem RtX.lt {sv : Value} {mx : Nat} {dn : Bool} (h : RtX W rb sv M mx dn Z) : rb < W.heap.size := by
  obtain ⟨v, h1, -⟩ := h.obj
  exact blk_lt h1
theorem RtS.of (h : RtS W rb sb N M Z) (hB : Below W.heap.size W W') : RtS W' rb sb N M Z :=
  ⟨h.rt.keep (fun k hk => hB.block k (by rcases hk with rfl | ⟨-, cur, hk⟩; exact h.rt.lt; exact blk_lt hk)) (fun _ h => h), bblk hB h.row⟩
theorem RtS.more {Z' : Nat → Prop} (h : RtS W rb sb N M Z) (hz : ∀ k, Z k → Z' k) : RtS W rb sb N M Z' := ⟨h.rt.keep (fun _ _ => rfl) hz, h.row⟩
theorem lessN_get {n : Int} : ∀ {M : Wl}, Rising M → (pget n M).isSome = true → ∃ h : lessN n M < M.length, pget n M = some (M[lessN n M]'h).2
  | [], _, h => by cases h
  | x :: M, hr, h => by
    obtain ⟨a, c⟩ := x
    by_cases e : a < n
    · have e1 : lessN n ((a, c) :: M) = lessN n M + 1 := by rw [lessN, if_pos e]
      rw [pget, if_neg (by omega)] at h ⊢
      obtain ⟨h1, h2⟩ := lessN_get hr.tail h
      refine ⟨by rw [e1]; simpa using h1, ?_⟩
      simp only [e1, List.getElem_cons_succ]
      exact h2
    · have e1 : lessN n ((a, c) :: M) = 0 := by rw [lessN, if_neg e]
      have ea : n = a := by
        have hl : lessN n ((a, c) :: M) < ((a, c) :: M).length := by rw [e1]; simp
        have h3 := (lessN_has n hr hl).2 h
        simp only [e1, List.getElem_cons_zero] at h3
        exact h3.symm
      refine ⟨by rw [e1]; simp, ?_⟩
      simp only [e1, List.getElem_cons_zero]
      rw [pget, if_pos ea]
set_option maxHeartbeats 2000000 in
theorem rrd_any (h : RtS W rb sb N M Z) (hl : M.length ≤ 100000) (n : Nat) (hn : n < N) (hN : N ≤ 1000000) : Calls Tryz.prog 121 #[.pointer (some ⟨rb, 0, none⟩), .int .i64 n] W fun e W' => e = .returned (.tuple #[.string (rd M n), .int .i64 0]) ∧ Below W.heap.size W W' := by
  have hat := rat_any h.rt.a hl (n : Int)
  obtain ⟨v, ho, hr, -⟩ := h.rt.obj
  have hup := h.rt.up
  have hrow := cl_of h.row n
  rw [Array.getElem?_replicate, if_pos hn] at hrow
  have hle := lessN_le (n : Int) M
  obtain ⟨ao, cap, rfl⟩ : ∃ ao cap, v = .slice ao M.length cap := by
    rcases hr.2 with ⟨rfl, h0⟩ | ⟨g, cap, cur, rfl, _⟩
    · exact ⟨none, 0, by rw [h0]⟩
    · exact ⟨_, _, rfl⟩
  have HAT := Lib.hid hat
  have e1 : decide ((n : Int) < 0) = false := decide_eq_false (by omega)
  have e2 : decide ((n : Int) ≥ (N : Int)) = false := decide_eq_false (by omega)
  have e2' : decide (N ≤ n) = false := decide_eq_false (by omega)
  have hrb := blk_lt ho
  have hsb := blk_lt h.row
  cases hq : (pget (n : Int) M).isSome
  · have hrd : rd M n = zsec := by
      unfold rd
      cases hp : pget (n : Int) M with
      | none => rfl
      | some y => rw [hp] at hq; cases hq
    rw [hq] at HAT
    rw [hrd]
    have o0 := cl_of ho 0
    have o3 := cl_of ho 3
    have HO := Lib.hid ho
    have HROW := Lib.hid hrow
    clear hat hup hq hrd h ho hr
    go_enter Tryz.func121, Tryz.ntmps121
    go_wp2_with fail
    refine HAT.out.mono ?_
    rintro e w1 ⟨rfl, hB1⟩
    have p0 := cl_of (bblk hB1 HO.out) 0
    have pr := (World.cell?_of_block (w := W) (hB1.block sb hsb) : w1.cell? ⟨sb, n, none⟩ = W.cell? ⟨sb, n, none⟩).trans HROW.out
    go_wp2_with fail
    go_ret2
    exact ⟨rfl, hB1⟩
  · obtain ⟨hk, hg⟩ := lessN_get hup hq
    rw [hq] at HAT
    have hrd : rd M n = (M[lessN (n : Int) M]'hk).2 := by unfold rd; rw [hg]; rfl
    obtain ⟨g, rfl⟩ : ∃ g, ao = some ⟨g, 0, none⟩ := by
      rcases hr.2 with ⟨e, h0⟩ | ⟨g, cap, cur, e, _⟩
      · omega
      · simp only [Value.slice.injEq] at e; exact ⟨g, e.1⟩
    have hc := ownsRow_cell hr rfl (wcells_at M _ hk).2
    have hgl := ownsRow_lt hr (k := g) rfl
    rw [hrd]
    generalize (M[lessN (n : Int) M]'hk).2 = s at *
    generalize lessN (n : Int) M = k at *
    have o0 := cl_of ho 0
    have o3 := cl_of ho 3
    have HO := Lib.hid ho
    have HC := Lib.hid hc
    clear hat hup hq hrd h ho hr hg hrow hc
    go_enter Tryz.func121, Tryz.ntmps121
    go_wp2_with fail
    refine HAT.out.mono ?_
    rintro e w1 ⟨rfl, hB1⟩
    have p1 := cl_of (bblk hB1 HO.out) 1
    have pr := (World.cell?_of_block (w := W) (hB1.block g hgl) : w1.cell? ⟨g, k * 2 + 1, none⟩ = W.cell? ⟨g, k * 2 + 1, none⟩).trans HC.out
    go_wp2_with fail
    go_ret2
    exact ⟨rfl, hB1⟩
end
end Go.Proofs.YtjjphcnoegaimaaGreat

namespace Go.Proofs.YtjjphcnoegaimaaGreat
open Go.RowKit Go.Shelf Go.Maps
set_option maxRecDepth 20000
set_option linter.unusedVariables false
set_option linter.unusedSimpArgs false

/-- What a step of the document's transaction leaves. -/
structure RPost (W : World) (rb sb N : Nat) (M' : Wl) (Z : Nat → Prop) (W' : World) : Prop where
  rt : RtS W' rb sb N M' (fun k => Z k ∨ W.heap.size ≤ k ∧ k < W'.heap.size)
  fr : Fr (fun k => k = rb) W W'
/-- A block of inodes' type. -/
def TyI (W : World) (b : Nat) : Prop := ∃ cs, W.heap[b]? = some (.cells cs 61 (0, 0))
section
variable {W W1 W2 W' w : World} {rb sb N bsn : Nat} {M M' : Wl} {Z : Nat → Prop} {i b j : Int} {x : Ino}
theorem TyI.set {a o : Nat} {u : Value} {c : Nat} (h : TyI W c) : TyI (W.setCell ⟨a, o, none⟩ u) c := by
  obtain ⟨cs, h⟩ := h
  by_cases e : c = a
  · subst e
    exact ⟨_, blk_here h o u⟩
  · exact ⟨cs, (Below.heap_setCell W ⟨a, o, none⟩ u c e).trans h⟩
theorem TyI.of {c : Nat} (h : TyI W c) (hB : Below W.heap.size W W') : TyI W' c := by
  obtain ⟨cs, h⟩ := h
  exact ⟨cs, bblk hB h⟩
theorem RtX.setC {sv : Value} {mx : Nat} {dn : Bool} {c o : Nat} {u : Value} (h : RtX W rb sv M mx dn Z) (hc : TyI W c) : RtX (W.setCell ⟨c, o, none⟩ u) rb sv M mx dn Z := by
  obtain ⟨cs, hc⟩ := hc
  refine h.keep (fun k hk => Below.heap_setCell W _ _ k ?_) (fun _ h => h)
  rintro rfl
  rcases hk with rfl | ⟨-, cur, hk⟩
  · obtain ⟨v, ho, -⟩ := h.obj
    rw [hc] at ho
    simp at ho
  · rw [hc] at hk
    simp at hk
theorem RtS.setC {c o : Nat} {u : Value} (h : RtS W rb sb N M Z) (hc : TyI W c) : RtS (W.setCell ⟨c, o, none⟩ u) rb sb N M Z := by
  refine ⟨h.rt.setC hc, (Below.heap_setCell W _ _ sb ?_).trans h.row⟩
  rintro rfl
  obtain ⟨cs, hc⟩ := hc
  have := h.row
  rw [hc] at this
  simp at this
theorem RPost.set {c o : Nat} {u : Value} (h : RPost W rb sb N M' Z W1) (hc : TyI W1 c) (hl : W.heap.size ≤ c) : RPost W rb sb N M' Z (W1.setCell ⟨c, o, none⟩ u) :=
  ⟨(h.rt.setC hc).more (fun k hk => hk.imp id (fun ⟨a, b⟩ => ⟨a, by simpa [World.setCell] using b⟩)), Fr.setCell h.fr ⟨c, o, none⟩ (.inl hl) u⟩
theorem RPost.pre (h : RPost W1 rb sb N M' Z W') (hB : Below W.heap.size W W1) : RPost W rb sb N M' Z W' :=
  ⟨h.rt.more (fun k hk => hk.imp id (fun ⟨a, b⟩ => ⟨Nat.le_trans hB.size a, b⟩)), (Fr.of_below hB).trans h.fr⟩
theorem RPost.then (h : RPost W rb sb N M' Z W1) (hB : Below W1.heap.size W1 W2) : RPost W rb sb N M' Z W2 :=
  ⟨(h.rt.of hB).more (fun k hk => hk.imp id (fun ⟨a, b⟩ => ⟨a, Nat.lt_of_lt_of_le b hB.size⟩)), h.fr.trans (Fr.of_below hB)⟩
theorem RPost.id (h : RtS W rb sb N M Z) (hB : Below W.heap.size W W') : RPost W rb sb N M Z W' :=
  ⟨(h.of hB).more (fun _ hk => .inl hk), Fr.of_below hB⟩
theorem RPost.blk (h : RPost W rb sb N M' Z W1) {c : Nat} {cs : Array Value} {t : TypeId} (hc : W.heap[c]? = some (.cells cs t (0, 0))) (ht : t ≠ 39) (h0 : RtS W rb sb N M Z) : W1.heap[c]? = some (.cells cs t (0, 0)) := by
  refine (h.fr.block c (blk_lt hc) ?_).trans hc
  rintro rfl
  obtain ⟨v, ho, -⟩ := h0.rt.obj
  rw [hc] at ho
  simp only [Option.some.injEq, Obj.cells.injEq] at ho
  exact ht ho.2.1

theorem rwr_any (h : RtS W rb sb N M Z) (hl : M.length ≤ 37) (n : Nat) (hn : n < N) (hN : N ≤ 1000000) (c : ByteArray) (hc : c.size = 64) :
    Calls Tryz.prog 16 #[.pointer (some ⟨rb, 0, none⟩), .int .i64 n, .string c] W fun e W' => e = .returned (.int .i64 (if (pget n M).isSome = true ∨ M.length < 37 then 0 else 4)) ∧ RPost W rb sb N (rput n c M 37) Z W' := by
  refine (rwrite_any h.rt rfl hl (by decide) n hn hN c hc).mono ?_
  rintro e w' ⟨rfl, hp⟩
  refine ⟨rfl, ⟨hp.rt, (hp.fr.block sb (blk_lt h.row) ?_).trans h.row⟩, hp.fr⟩
  rintro rfl
  obtain ⟨v, ho, -⟩ := h.rt.obj
  have := h.row
  rw [ho] at this
  simp at this

set_option maxHeartbeats 4000000 in
theorem r9told_any (h : RtS W rb sb N M Z) (hl : M.length ≤ 37) (hN : N ≤ 1000000) (hg : GeoN i b j N) (hx : x.Wf) (hn : x.n ≤ b) (hs : Sz M) (hb : x.n ≠ 0 → (bsn : Int) = fr i b j 5 + x.n - 1) :
    Calls Tryz.prog 93 #[.pointer (some ⟨rb, 0, none⟩), gv i b j, .agg (ic x)] W fun e W' => ∃ v, e = .returned (.tuple #[v, .int .i64 0]) ∧ W'.ownsRow W.heap.size 57 1 v 32 (u16s (toldL x M bsn)) ∧ Below W.heap.size W W' := by
  unfold gv ic
  have HH := Lib.hid h
  have HX := Lib.hid hx
  have hB1 : Below W.heap.size W ((W.alloc (.cells #[.int .i64 i, .int .i64 b, .int .i64 j] 56)).alloc (.cells #[.int .u8 x.k, .int .u16 x.l, .int .u32 x.s, .int .u16 x.d0, .int .u16 x.d1, .int .u16 x.d2, .int .u16 x.d3, .int .u16 x.n] 61)) := bal (bnew _ _) _
  by_cases hz : x.n = 0
  · have hl : toldL x M bsn = List.replicate 32 0 := if_pos hz
    have HL := Lib.hid hl
    have e0 : (x.n == 0) = true := by simpa using hz
    have hmk : ∀ W, (Instr.makeSlice 68 (.int .i64 32) (.int .i64 32)).run Tryz.prog W = .ok (.slice (some ⟨W.heap.size, 0, none⟩) 32 32) (W.alloc (.cells (madeCells #[.int .u16 0] 32) 57)) := fun W => run_make_row' (P := Tryz.prog) 68 57 (.int .u16 0) 2 Tryz.underlying68 Tryz.infoU16' rfl .i64 .i64 32 (by decide) (by decide) W
    have HB1 := Lib.hid hB1
    clear h hx hb hl hz hB1 hn
    go_enter Tryz.func93, Tryz.ntmps93
    go_wp2_with fail
    go_ret2
    have hmc : (madeCells #[Value.int .u16 0] 32).toList = u16s (List.replicate 32 0) := by kernel_rfl
    refine ⟨_, rfl, ?_, bal HB1.out _⟩
    rw [HL.out]
    refine ⟨by simp [u16s], .inr ⟨_, 32, madeCells #[Value.int .u16 0] 32, rfl, ?_, hp_new _ _ (by simp), Nat.le_refl _, by decide, by kernel_rfl, ?_⟩⟩
    · omega
    · rw [hmc]; rfl
  · have hlt : toldL x M bsn = gots (rd M bsn).data.toList := if_neg hz
    have hbs := hb hz
    have hfr := fr6 i b j
    have hf5 := fr_bd hg.m (show 5 ≤ 6 by decide)
    have hn0 := hx.n
    have hbN : bsn < N := by have := hg.n; omega
    have hblk := fun W => rblock_yes (n := x.n) hg.m (by omega) hn W
    rw [← hbs] at hblk
    have hsz := rd_size hs bsn
    have hrd := fun (W2 : World) (hB : Below W.heap.size W W2) => rrd_any (h.of hB) (by omega) bsn hbN hN
    have hlen : (rd M bsn).data.toList.length = 64 := by rw [Array.length_toList]; exact hsz
    have htd := fun W => rtold_any (rd M bsn).data.toList (by omega) W
    unfold tl tz at htd
    rw [if_pos hlen, if_pos hlen, bs_of] at htd
    have hg32 : (gots (rd M bsn).data.toList).length = 32 := by have := toldL_length x hs bsn; rw [hlt] at this; exact this
    rw [hg32] at htd
    have HRD : Hid (∀ (W2 : World), Below W.heap.size W W2 → Calls Tryz.prog 121 #[.pointer (some ⟨rb, 0, none⟩), .int .i64 bsn] W2 fun e W' => e = .returned (.tuple #[.string (rd M bsn), .int .i64 0]) ∧ Below W2.heap.size W2 W') := Lib.hid hrd
    generalize rd M bsn = c at *
    have HL := Lib.hid hlt
    have HBL := Lib.hid hblk
    have HTD := Lib.hid htd
    have e0 : (x.n == 0) = false := by simpa using hz
    clear h hx hb hlt hz hn hblk hrd htd hsz hn0 hf5 hfr hbs hlen hg32
    go_enter Tryz.func93, Tryz.ntmps93
    go_wp2_with fail
    obtain ⟨W1, hW1⟩ : ∃ W1, (W.alloc (.cells #[.int .i64 i, .int .i64 b, .int .i64 j] 56)).alloc (.cells #[.int .u8 x.k, .int .u16 x.l, .int .u32 x.s, .int .u16 x.d0, .int .u16 x.d1, .int .u16 x.d2, .int .u16 x.d3, .int .u16 x.n] 61) = W1 := ⟨_, rfl⟩
    rw [hW1] at hB1
    simp only [hW1]
    have HB1 := Lib.hid hB1
    clear hW1 hB1
    refine (HBL.out _).mono ?_
    rintro e w2 ⟨rfl, hB2⟩
    have HB2 := Lib.hid (bt HB1.out hB2)
    clear hB2
    go_wp2_with fail
    refine (HRD.out _ HB2.out).mono ?_
    rintro e w3 ⟨rfl, hB3⟩
    have HB3 := Lib.hid (bt HB2.out hB3)
    clear hB3
    go_wp2_with fail
    refine (HTD.out _).mono ?_
    rintro e w4 ⟨⟨v, rfl, hrow⟩, hB4⟩
    have hrow2 : w4.ownsRow W.heap.size 57 1 v 32 (u16s (gots c.data.toList)) := by
      obtain ⟨a, b⟩ := hrow
      refine ⟨a, b.imp id (fun ⟨g, cp, cur, e, h0, r⟩ => ⟨g, cp, cur, e, Nat.le_trans HB3.out.size h0, r⟩)⟩
    have HR := Lib.hid hrow2
    have HB4 := Lib.hid (bt HB3.out hB4)
    clear hB4 hrow hrow2
    go_wp2_with fail
    go_ret2
    exact ⟨v, rfl, by rw [HL.out]; exact HR.out, HB4.out⟩

set_option maxHeartbeats 4000000 in
theorem r9tell_any {zs : List Int} {v : Value} (h : RtS W rb sb N M Z) (hl : M.length ≤ 37) (hN : N ≤ 1000000) (hg : GeoN i b j N) (hx : x.Wf) (hn : x.n ≤ b) (hz : 1 ≤ x.n) (hb : (bsn : Int) = fr i b j 5 + x.n - 1) (hv : SlI .u16 W v zs) (hlz : zs.length ≤ 32) (z : Int) (hzz : (if (pget bsn M).isSome = true ∨ M.length < 37 then 0 else 4) = z) :
    Calls Tryz.prog 94 #[.pointer (some ⟨rb, 0, none⟩), gv i b j, .agg (ic x), v] W fun e W' => e = .returned (.int .i64 z) ∧ RPost W rb sb N (rput bsn (tellB zs) M 37) Z W' := by
  unfold gv ic
  have hfr := fr6 i b j
  have hf5 := fr_bd hg.m (show 5 ≤ 6 by decide)
  have hbN : bsn < N := by have := hg.n; omega
  have hblk := fun W => rblock_yes (n := x.n) hg.m hz hn W
  rw [← hb] at hblk
  have hB1 : Below W.heap.size W ((W.alloc (.cells #[.int .i64 i, .int .i64 b, .int .i64 j] 56)).alloc (.cells #[.int .u8 x.k, .int .u16 x.l, .int .u32 x.s, .int .u16 x.d0, .int .u16 x.d1, .int .u16 x.d2, .int .u16 x.d3, .int .u16 x.n] 61)) := bal (bnew _ _) _
  have HH := Lib.hid h
  have HB1 := Lib.hid hB1
  have HBL := Lib.hid hblk
  have HTS := Lib.hid (tellB_size zs hlz)
  have hvk : ∀ W', Below W.heap.size W W' → SlI .u16 W' v zs := fun W' hB => by
    obtain ⟨⟨ao, cap, e, hc⟩, hw⟩ := hv
    refine ⟨⟨ao, cap, e, fun h0 => ?_⟩, hw⟩
    obtain ⟨b, off, e2, hb, hcc⟩ := hc h0
    exact ⟨b, off, e2, Nat.lt_of_lt_of_le hb hB.size, fun j hj => (hB.cell (p := ⟨b, off + j, none⟩) hb).trans (hcc j hj)⟩
  have HVK := Lib.hid hvk
  have HL := Lib.hid hlz
  have HLM := Lib.hid hl
  have HNN := Lib.hid hN
  have HZZ := Lib.hid hzz
  obtain ⟨ao, cap, rfl⟩ : ∃ ao cap, v = .slice ao zs.length cap := by obtain ⟨⟨ao, cap, e, _⟩, _⟩ := hv; exact ⟨ao, cap, e⟩
  clear h hx hn hz hb hv hlz hblk hf5 hfr hB1 hvk hl hN hzz
  go_enter Tryz.func94, Tryz.ntmps94
  go_wp2_with fail
  obtain ⟨W1, hW1⟩ : ∃ W1, (W.alloc (.cells #[.int .i64 i, .int .i64 b, .int .i64 j] 56)).alloc (.cells #[.int .u8 x.k, .int .u16 x.l, .int .u32 x.s, .int .u16 x.d0, .int .u16 x.d1, .int .u16 x.d2, .int .u16 x.d3, .int .u16 x.n] 61) = W1 := ⟨_, rfl⟩
  rw [hW1] at HB1
  simp only [hW1]
  clear hW1
  refine (HBL.out _).mono ?_
  rintro e w2 ⟨rfl, hB2⟩
  have HB2 := Lib.hid (bt HB1.out hB2)
  clear hB2
  go_wp2_with fail
  refine (rtell_any (HVK.out _ HB2.out)).mono ?_
  rintro e w3 ⟨⟨T, zt, rfl, hT⟩, hB3⟩
  have HB3 := Lib.hid (bt HB2.out hB3)
  obtain ⟨rfl, HTB⟩ : zt = 0 ∧ Hid (bs T = tellB zs) := by
    rcases hT with ⟨a, -, c⟩ | ⟨-, c, -⟩
    · exact ⟨a, Lib.hid (by rw [c]; rfl)⟩
    · have := HL.out; omega
  clear hB3 hT
  have hwr := rwr_any (HH.out.of HB3.out) HLM.out bsn hbN HNN.out (tellB zs) HTS.out
  rw [HZZ.out, ← HTB.out] at hwr
  have HWR := Lib.hid hwr
  clear hwr
  go_wp2_with fail
  refine HWR.out.mono ?_
  rintro e w4 ⟨rfl, hp⟩
  have HP := Lib.hid hp
  clear hp
  go_wp2_with fail
  go_ret
  refine ⟨rfl, ?_⟩
  have := HP.out.pre HB3.out
  rw [HTB.out] at this
  exact this
end
end Go.Proofs.YtjjphcnoegaimaaGreat
