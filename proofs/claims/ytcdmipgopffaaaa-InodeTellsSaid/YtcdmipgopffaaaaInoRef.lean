/- The document's answer for package inode: the walks through Pages, two, at, Tell, Told, Same, blocks. -/
import Derived.Test.YtcdmipgopffaaaaInoTold
import Derived.Laws.BitsAllLaws
namespace Go.Proofs.Ytcdmipgopffaaaa
open Go.RowKit
set_option maxRecDepth 20000
set_option linter.unusedVariables false
set_option linter.unusedSimpArgs false

set_option maxHeartbeats 400000 in
theorem rpages_any (n : Int) (h0 : 0 ≤ n) (h1 : n < 4294967296) (w : World) : Calls Try.prog 38 #[.int .u32 n] w fun e w' => e = .returned (.int .i64 (pages n)) ∧ w = w' := by
  by_cases h : n % 64 = 0
  · have hp : pages n = n / 64 := by unfold pages; omega
    have hb : (n % 64 != 0) = false := by simp [h]
    have HP := Lib.hid hp
    clear hp h
    go_enter Try.func38, Try.ntmps38
    go_wp2_with fail
    go_ret
    exact ⟨by rw [HP.out]; rfl, rfl⟩
  · have hp : pages n = n / 64 + 1 := by unfold pages; omega
    have hb : (n % 64 != 0) = true := by simp [h]
    have HP := Lib.hid hp
    clear hp h
    go_enter Try.func38, Try.ntmps38
    go_wp2_with fail
    go_ret
    exact ⟨by rw [HP.out]; rfl, rfl⟩

theorem bytes2 (n : Nat) : bytesLE n 2 = [UInt8.ofNat (n % 256), UInt8.ofNat (n / 256 % 256)] := rfl
set_option maxHeartbeats 2000000 in
theorem rtwo_any (v : Int) (h0 : 0 ≤ v) (h1 : v < 65536) (w : World) : Calls Try.prog 55 #[.int .u16 v] w fun e w' => e = .returned (.string (bs (bytesLE v.toNat 2))) ∧ Below w.heap.size w w' := by
  have hb : bc (bytesLE v.toNat 2) = #[.int .u8 (v % 256), .int .u8 (v / 256 % 256)] := by
    rw [bytes2]
    simp only [bc, List.map_cons, List.map_nil]
    have e0 : ((UInt8.ofNat (v.toNat % 256)).toNat : Int) = v % 256 := by simp; omega
    have e1 : ((UInt8.ofNat (v.toNat / 256 % 256)).toNat : Int) = v / 256 % 256 := by simp; omega
    rw [e0, e1]
  have hcv := conv_new (bytesLE v.toNat 2) 2 (bytesLE_length 2 _)
  rw [hb] at hcv
  clear hb
  have k0 : IntKind.u8.wrap v = v % 256 := by rw [IntKind.wrap_u8]
  have k1 : IntKind.u8.wrap (v / 256) = v / 256 % 256 := by rw [IntKind.wrap_u8]
  go_enter Try.func55, Try.ntmps55
  go_wp2_with fail
  go_ret
  exact ⟨rfl, bnew _ _⟩

theorem or_sh8 {a b : Int} (ha : 0 ≤ a ∧ a < 256) (hb : 0 ≤ b ∧ b < 256) : bits .or .u16 a (b * 256) = a + 256 * b := by
  obtain ⟨a, rfl⟩ := Int.eq_ofNat_of_zero_le ha.1
  obtain ⟨b, rfl⟩ := Int.eq_ofNat_of_zero_le hb.1
  have e : ((b : Int) * 256) = ((2 ^ 8 * b : Nat) : Int) := by omega
  rw [e, u16_or_nat _ _ (by omega) (by omega), Nat.or_comm, ← Nat.two_pow_add_eq_or_of_lt (by omega)]
  omega
set_option maxHeartbeats 1000000 in
theorem rat_any (s : ByteArray) (k : Nat) (hk : k + 1 < s.size) (hs : s.size ≤ 100000) (w : World) : Calls Try.prog 54 #[.string s, .int .i64 k] w fun e w' => e = .returned (.int .u16 ((s[k].toNat : Int) + 256 * (s[k + 1].toNat : Int))) ∧ Below w.heap.size w w' := by
  have h0 := s[k].toNat_lt
  have h1 := s[k + 1].toNat_lt
  have i0 : ∀ W, (Instr.index 9 (.string s) (.int .i64 k)).run Try.prog W = .ok (.int .u8 (s[k].toNat : Int)) W := fun W => by
    rw [run_index_string _ _ _ _ _ Try.underlying9, dif_pos (by omega)]
    rfl
  have i1 : ∀ W, (Instr.index 9 (.string s) (.int .i64 ((k : Int) + 1))).run Try.prog W = .ok (.int .u8 (s[k + 1].toNat : Int)) W := fun W => by
    rw [run_index_string _ _ _ _ _ Try.underlying9, dif_pos (by omega)]
    rfl
  have ho := or_sh8 (a := (s[k].toNat : Int)) (b := (s[k + 1].toNat : Int)) (by omega) (by omega)
  have hw : IntKind.u16.wrap ((s[k + 1].toNat : Int) * 256) = (s[k + 1].toNat : Int) * 256 := IntWalk.u16_in _ (by omega)
  have w0 : IntKind.u16.wrap (s[k].toNat : Int) = (s[k].toNat : Int) := IntWalk.u16_in _ (by omega)
  have w1 : IntKind.u16.wrap (s[k + 1].toNat : Int) = (s[k + 1].toNat : Int) := IntWalk.u16_in _ (by omega)
  have H0 : (0 : Int) ≤ (s[k].toNat : Int) ∧ (s[k].toNat : Int) < 256 := by omega
  have H1 : (0 : Int) ≤ (s[k + 1].toNat : Int) ∧ (s[k + 1].toNat : Int) < 256 := by omega
  clear h0 h1
  generalize (s[k].toNat : Int) = A at *
  generalize (s[k + 1].toNat : Int) = B at *
  go_enter Try.func54, Try.ntmps54
  go_wp2_with fail
  go_quiet (fail)
  go_wp2_with fail
  go_ret
  exact ⟨rfl, ⟨rfl, rfl, rfl, Nat.le_refl _, fun _ _ => rfl⟩⟩

set_option maxHeartbeats 1000000 in
theorem rtell_any {v : Value} {zs : List Int} {w : World} (h : SlI .u16 w v zs) (hl : zs.length ≤ 1000) : Calls Try.prog 34 #[v] w fun e w' => (∃ T z, e = .returned (.tuple #[.string (bs T), .int .i64 z]) ∧ TellR zs T z) ∧ Below w.heap.size w w' := by
  obtain ⟨⟨ao, cap, rfl, hcs⟩, hwf⟩ := h
  have HC := Lib.hid hcs
  have HW := Lib.hid hwf
  clear hcs hwf
  by_cases h32 : 32 < zs.length
  · have d0 : decide ((zs.length : Int) > 32) = true := decide_eq_true (by omega)
    go_enter Try.func34, Try.ntmps34
    go_wp2_with fail
    go_ret2
    exact ⟨⟨[], 2, rfl, .inr ⟨rfl, h32, rfl⟩⟩, Below.refl _ _⟩
  · have d0 : decide ((zs.length : Int) > 32) = false := decide_eq_false (by omega)
    go_enter Try.func34, Try.ntmps34
    go_wp2_with fail
    go_loopw [4, 5] (fun s v wr => ∃ k : Nat, ∃ l : List UInt8, k ≤ zs.length ∧ v = .int .i64 k ∧ s = .string (bs l) ∧ Hid (l = pby (zs.take k)) ∧ Below w.heap.size w wr) (fun _ v _ => zs.length - (intOf v).toNat)
    case atStart => exact ⟨0, [], by omega, rfl, rfl, rfl, Below.refl _ _⟩
    case round =>
      obtain ⟨k, l, hk, rfl, rfl, HL, hB⟩ := hrel
      have hll : l.length = 2 * k := by rw [HL.out, pby_length, List.length_take]; omega
      have hs := bs_size l
      by_cases hlt : k < zs.length
      · obtain ⟨b, off, rfl, hbl, hcell⟩ := HC.out (by omega)
        have hc := (hB.cell (p := ⟨b, off + k, none⟩) hbl).trans (hcell k hlt)
        have hz := wfu16_mem HW.out hlt
        have HP := Lib.hid (pby_snoc zs hlt)
        generalize zs.getD k 0 = z at *
        have HLL := Lib.hid hll
        have hl64 : l.length ≤ 64 := by omega
        clear hcell hll
        go_wp2_with fail
        refine (rtwo_any z (by omega) (by omega) _).mono ?_
        rintro e w2 ⟨rfl, hB4⟩
        have h4 : (bs (bytesLE z.toNat 2)).size = 2 := by rw [bs_size, bytesLE_length]
        have HA := bs_append l (bytesLE z.toNat 2)
        go_wp2_with fail
        go_roundw
        case rel => exact ⟨k + 1, l ++ bytesLE z.toNat 2, by omega, by go_num, rfl, Lib.hid (by rw [HP.out, HL.out]), bt hB hB4⟩
        case measure => simp [intOf]; omega
      · obtain rfl : k = zs.length := by omega
        have hmk := make_zeros (64 - l.length) (by omega)
        have hcv := conv_new (zeros (64 - l.length)) (64 - l.length) (zeros_length _)
        have HA := bs_append l (zeros (64 - l.length))
        have hz : (bs (zeros (64 - l.length))).size = 64 - l.length := by rw [bs_size, zeros_length]
        have ei : ((64 - l.length : Nat) : Int) = 64 - (l.length : Int) := by omega
        rw [ei] at hmk
        have EI := Lib.hid ei
        have HLL := Lib.hid hll
        clear ei hll
        have hl64 : l.length ≤ 64 := by have := HLL.out; omega
        go_wp2_with fail
        go_ret2
        exact ⟨⟨l ++ zeros (64 - l.length), 0, rfl, .inl ⟨rfl, by omega, by rw [HLL.out, HL.out, List.take_length]⟩⟩, bal hB _⟩

theorem gots_get : ∀ (l : List UInt8) (k : Nat) (h : 2 * k + 1 < l.length), (gots l).getD k 0 = (l[2 * k].toNat : Int) + 256 * (l[2 * k + 1].toNat : Int)
  | [], k, h => by simp at h
  | [_], k, h => by simp at h
  | a :: b :: l, 0, h => by rw [gots_two]; simp
  | a :: b :: l, k + 1, h => by
    have ih := gots_get l k (by simp at h; omega)
    rw [gots_two, List.getD_cons_succ, ih]
    simp [Nat.mul_add]

theorem ownsRow_belowI {W W' : World} {B : Nat} {e : TypeId} {size : Nat} {u : Value} {k : Nat} {xs : List Value} (h : W.ownsRow B e size u k xs) (hB : Below W.heap.size W W') : W'.ownsRow B e size u k xs := by
  obtain ⟨hlen, hrow⟩ := h
  refine ⟨hlen, ?_⟩
  rcases hrow with h' | ⟨g, cap, cur, rfl, h0, hh, hr⟩
  · exact .inl h'
  · exact .inr ⟨g, cap, cur, rfl, h0, (hB.block g (blk_lt hh)).trans hh, hr⟩
/-- What a block of bytes tells, and whether it does. -/
def tl (l : List UInt8) : List Int := if l.length = 64 then gots l else []
def tz (l : List UInt8) : Int := if l.length = 64 then 0 else if l.length < 64 then 6 else 7
set_option maxHeartbeats 2000000 in
theorem rtold_any (l : List UInt8) (hl : l.length ≤ 100000) (w : World) : Calls Try.prog 36 #[.string (bs l)] w fun e w' => (∃ v, e = .returned (.tuple #[v, .int .i64 (tz l)]) ∧ w'.ownsRow w.heap.size 40 1 v (tl l).length (u16s (tl l))) ∧ Below w.heap.size w w' := by
  obtain ⟨i0, hi, hz0, hz1, hz2⟩ := info_parts Try.infoU16
  have hs := bs_size l
  by_cases h1 : l.length < 64
  · have e1 : tl l = [] := by unfold tl; rw [if_neg (by omega)]
    have e2 : tz l = 6 := by unfold tz; rw [if_neg (by omega), if_pos h1]
    rw [e1, e2]
    have d0 : decide ((l.length : Int) < 64) = true := decide_eq_true (by omega)
    go_enter Try.func36, Try.ntmps36
    go_wp2_with fail
    go_ret2
    exact ⟨⟨_, rfl, ⟨rfl, .inl ⟨rfl, rfl⟩⟩⟩, Below.refl _ _⟩
  have d0 : decide ((l.length : Int) < 64) = false := decide_eq_false (by omega)
  by_cases h2 : 64 < l.length
  · have e1 : tl l = [] := by unfold tl; rw [if_neg (by omega)]
    have e2 : tz l = 7 := by unfold tz; rw [if_neg (by omega), if_neg h1]
    rw [e1, e2]
    have d1 : decide ((l.length : Int) > 64) = true := decide_eq_true (by omega)
    go_enter Try.func36, Try.ntmps36
    go_wp2_with fail
    go_ret2
    exact ⟨⟨_, rfl, ⟨rfl, .inl ⟨rfl, rfl⟩⟩⟩, Below.refl _ _⟩
  have d1 : decide ((l.length : Int) > 64) = false := decide_eq_false (by omega)
  have h64 : l.length = 64 := by omega
  have e1 : tl l = gots l := by unfold tl; rw [if_pos h64]
  have e2 : tz l = 0 := by unfold tz; rw [if_pos h64]
  rw [e1, e2]
  clear e1 e2
  have hgl : (gots l).length = 32 := by rw [gots_length, h64]
  have H : ∀ k : Nat, k < 32 → ∀ W : World, Calls Try.prog 54 #[.string (bs l), .int .i64 (2 * (k : Int))] W fun e w' => e = .returned (.int .u16 ((gots l).getD k 0)) ∧ Below W.heap.size W w' := by
    intro k hk W
    have := rat_any (bs l) (2 * k) (by omega) (by omega) W
    rw [gots_get l k (by omega)]
    exact this
  have HH := Lib.hid H
  have HG := Lib.hid hgl
  have hb : ∀ k, 0 ≤ (gots l).getD k 0 ∧ (gots l).getD k 0 < 65536 := gots_bd l
  have HB := Lib.hid hb
  clear H hgl h1 h2 hb
  go_enter Try.func36, Try.ntmps36
  go_wp2_with fail
  go_loopw [4, 5] (fun v c wr => ∃ k : Nat, k ≤ 32 ∧ c = .int .i64 k ∧ wr.ownsRow w.heap.size 40 1 v ((gots l).take k).length (u16s ((gots l).take k)) ∧ Below w.heap.size w wr) (fun _ c _ => 32 - (intOf c).toNat)
  case atStart => exact ⟨0, by omega, rfl, ⟨rfl, .inl ⟨rfl, rfl⟩⟩, Below.refl _ _⟩
  case round =>
    obtain ⟨k, hk, rfl, hown, hB⟩ := hrel
    by_cases hlt : k < 32
    · have d2 : decide ((k : Int) < 32) = true := decide_eq_true (by omega)
      have hc := HH.out k hlt
      have hv := HB.out k
      have HT := Lib.hid (take_snocI (gots l) (k := k) (by rw [HG.out]; exact hlt))
      have hkl : ((gots l).take k).length = k := by rw [List.length_take, HG.out]; omega
      generalize (gots l).getD k 0 = V at *
      generalize hX : (gots l).take k = xs at *
      have HC := Lib.hid hc
      clear hc
      go_wp2_with fail
      refine (HC.out _).mono ?_
      rintro e w1 ⟨rfl, hB1⟩
      have hown1 := ownsRow_belowI hown hB1
      have B1 := bt hB hB1
      clear hown hB hB1
      go_wp2_with (at_builtin; refine wpList_append_own _ rfl (.tmp 16) (.tmp 21) 58 rfl w.heap.size 40 i0 (.int .u16 0) 1 2 Try.underlying58 hi hz0 hz1 hz2 rfl (by decide) u4 xs.length (u16s xs) rfl ?_ ⟨w1.heap.size, 0, none⟩ 1 1 [.int .u16 V] rfl rfl ?_ ?_ ?_ ?_ ?_ ?_)
      · exact hown1.alloc _
      · intro j u hj
        rw [Addr.add_lit, Nat.zero_add, cl_of (hp_new w1 _ rfl)]
        simpa using hj
      · exact oneU16 _
      · simp only [maxLen]
        omega
      · omega
      · have := B1.size
        simp
        omega
      intro v' w' hrow hg _
      have hB' := Below.grown (B1.alloc B1.size (.cells #[.int .u16 V] 40)) hg (by have := B1.size; simp; omega) (fun k hk => ino_base hown1 hk)
      have hu : u16s xs ++ [.int .u16 V] = u16s (xs ++ [V]) := by simp [u16s]
      rw [hu] at hrow
      clear hu hg hown1 B1
      go_wp2_with fail
      go_roundw
      case rel => exact ⟨k + 1, by omega, by go_num, by rw [HT.out]; simpa [hkl] using hrow, hB'⟩
      case measure => simp [intOf]; omega
    · obtain rfl : k = 32 := by omega
      rw [List.take_of_length_le (by rw [HG.out]; exact Nat.le_refl _)] at hown
      go_wp2_with fail
      go_ret2
      exact ⟨⟨u4, rfl, hown⟩, hB⟩

set_option maxHeartbeats 1000000 in
theorem rsame_any {v v' : Value} {zs ys : List Int} {w : World} (h : SlI .u16 w v zs) (h' : SlI .u16 w v' ys) (hl : zs.length ≤ 1000) (hl' : ys.length ≤ 1000) (he : zs = ys) : Calls Try.prog 37 #[v, v'] w fun e w' => e = .returned (.bool true) ∧ Below w.heap.size w w' := by
  subst he
  obtain ⟨⟨ao, cap, rfl, hcs⟩, hwf⟩ := h
  obtain ⟨⟨ao', cap', rfl, hcs'⟩, hwf'⟩ := h'
  have HC := Lib.hid hcs
  have HC' := Lib.hid hcs'
  clear hcs hcs' hwf hwf'
  go_enter Try.func37, Try.ntmps37
  go_wp2_with fail
  go_loopw [5] (fun c wr => ∃ k : Nat, k ≤ zs.length ∧ c = .int .i64 k ∧ Below w.heap.size w wr) (fun c _ => zs.length - (intOf c).toNat)
  case atStart => exact ⟨0, by omega, rfl, Below.refl _ _⟩
  case round =>
    obtain ⟨k, hk, rfl, hB⟩ := hrel
    by_cases hlt : k < zs.length
    · obtain ⟨b, off, rfl, hbl, hcell⟩ := HC.out (by omega)
      obtain ⟨b', off', rfl, hbl', hcell'⟩ := HC'.out (by omega)
      have hc := (hB.cell (p := ⟨b, off + k, none⟩) hbl).trans (hcell k hlt)
      have hc' := (hB.cell (p := ⟨b', off' + k, none⟩) hbl').trans (hcell' k hlt)
      generalize zs.getD k 0 = z at *
      clear hcell hcell'
      go_wp2_with fail
      go_quiet (fail)
      go_wp2_with fail
      go_roundw
      case rel => exact ⟨k + 1, by omega, by go_num, hB.trans ⟨rfl, rfl, rfl, Nat.le_refl _, fun _ _ => rfl⟩⟩
      case measure => simp [intOf]; omega
    · obtain rfl : k = zs.length := by omega
      go_wp2_with fail
      go_ret
      exact ⟨rfl, hB⟩

set_option maxHeartbeats 1000000 in
theorem rblocks_any (x : Ino) (w : World) : Calls Try.prog 56 #[.agg (ic x)] w fun e w' => (∃ g, e = .returned (.slice (some ⟨g, 0, none⟩) 5 5) ∧ w.heap.size ≤ g ∧ w'.heap[g]? = some (.cells (u16s x.ds).toArray 40 (0, 0))) ∧ Below w.heap.size w w' := by
  unfold ic
  go_enter Try.func56, Try.ntmps56
  go_wp2_with fail
  go_ret
  exact ⟨⟨_, rfl, by omega, hp_new _ _ (by simp)⟩, bal (bal (bnew _ _) _) _⟩
end Go.Proofs.Ytcdmipgopffaaaa
