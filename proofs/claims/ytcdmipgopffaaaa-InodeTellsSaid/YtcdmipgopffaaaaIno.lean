/- package inode: the walks through Pages, put, pad, got, Tell, Told. -/
import Derived.Test.YtcdmipgopffaaaaOctGet
import Derived.Test.YtcdmipgopffaaaaBytes
import Derived.Test.YtcdmipgopffaaaaSlice
import Derived.Test.YtcdmipgopffaaaaRow
namespace Go.Proofs.Ytcdmipgopffaaaa
open Go.RowKit
set_option maxRecDepth 20000

def pages (n : Int) : Int := (n + 64 - 1) / 64
set_option maxHeartbeats 400000 in
theorem pages_any (n : Int) (h0 : 0 ≤ n) (h1 : n < 4294967296) (w : World) : Calls Try.prog 31 #[.int .u32 n] w fun e w' => e = .returned (.int .i64 (pages n)) ∧ w = w' := by
  go_enter Try.func31, Try.ntmps31
  go_wp2_with fail
  go_ret
  exact ⟨rfl, rfl⟩

theorem wfu16_mem {zs : List Int} (h : ∀ n ∈ zs, (Lit.int .u16 n).wf = true) {k : Nat} (hk : k < zs.length) : 0 ≤ zs.getD k 0 ∧ zs.getD k 0 < 65536 := by
  rw [List.getD_eq_getElem?_getD, List.getElem?_eq_getElem hk, Option.getD_some]
  exact wfu16 (h _ (List.getElem_mem hk))

/-- Numbers of two bytes, one behind the other. -/
def pby (zs : List Int) : List UInt8 := zs.flatMap fun z => bytesLE z.toNat 2
theorem pby_snoc (zs : List Int) {k : Nat} (hk : k < zs.length) : pby (zs.take (k + 1)) = pby (zs.take k) ++ bytesLE (zs.getD k 0).toNat 2 := by
  rw [pby, List.take_succ_eq_append_getElem hk, List.flatMap_append, List.getD_eq_getElem?_getD, List.getElem?_eq_getElem hk, Option.getD_some]
  simp [pby]
theorem pby_length (zs : List Int) : (pby zs).length = 2 * zs.length := by
  induction zs with
  | nil => rfl
  | cons z zs ih => simp only [pby, List.flatMap_cons, List.length_append, bytesLE_length, List.length_cons] at ih ⊢; omega

set_option maxHeartbeats 1000000 in
theorem put_any {v : Value} {zs : List Int} {w : World} (h : SlI .u16 w v zs) (hl : zs.length ≤ 1000) : Calls Try.prog 51 #[v] w fun e w' => e = .returned (.string (bs (pby zs))) ∧ Below w.heap.size w w' := by
  obtain ⟨⟨ao, cap, rfl, hcs⟩, hwf⟩ := h
  have HC := Lib.hid hcs
  have HW := Lib.hid hwf
  clear hcs hwf
  go_enter Try.func51, Try.ntmps51
  go_wp2_with fail
  go_loopw [2, 9] (fun s v wr => ∃ k : Nat, ∃ l : List UInt8, k ≤ zs.length ∧ v = .int .i64 k ∧ s = .string (bs l) ∧ Hid (l = pby (zs.take k)) ∧ Below w.heap.size w wr) (fun _ v _ => zs.length - (intOf v).toNat)
  case atStart => exact ⟨0, [], by omega, rfl, rfl, rfl, Below.refl _ _⟩
  case round =>
    obtain ⟨k, l, hk, rfl, rfl, HL, hB⟩ := hrel
    by_cases hlt : k < zs.length
    · obtain ⟨b, off, rfl, hbl, hcell⟩ := HC.out (by omega)
      have hc := (hB.cell (p := ⟨b, off + k, none⟩) hbl).trans (hcell k hlt)
      have hz := wfu16_mem HW.out hlt
      have HP := Lib.hid (pby_snoc zs hlt)
      have hll : l.length ≤ 2000 := by rw [HL.out, pby_length, List.length_take]; omega
      have hs := bs_size l
      generalize zs.getD k 0 = z at *
      clear hcell
      go_wp2_with fail
      refine (num_any' z 2 (by omega) (by omega) (by decide) (by decide) (.inr (by show z.toNat < 256 ^ 2; omega)) _).mono ?_
      rintro e w2 ⟨rfl, hB4⟩
      have h4 : (bs (bytesLE z.toNat 2)).size = 2 := by rw [bs_size, bytesLE_length]
      have HA := bs_append l (bytesLE z.toNat 2)
      go_wp2_with fail
      go_roundw
      case rel => exact ⟨k + 1, l ++ bytesLE z.toNat 2, by omega, by go_num, rfl, Lib.hid (by rw [HP.out, HL.out]), bt hB hB4⟩
      case measure => simp [intOf]; omega
    · obtain rfl : k = zs.length := by omega
      go_wp2_with fail
      go_ret
      exact ⟨by rw [HL.out, List.take_length]; rfl, hB⟩

set_option maxHeartbeats 1000000 in
theorem pad_any (l : List UInt8) (n : Nat) (h : l.length ≤ n) (hn : n ≤ 100000) (w : World) : Calls Try.prog 52 #[.string (bs l), .int .i64 n] w fun e w' => e = .returned (.string (bs (l ++ zeros (n - l.length)))) ∧ Below w.heap.size w w' := by
  have hs := bs_size l
  have hmk := make_zeros (n - l.length) (by omega)
  have hcv := conv_new (zeros (n - l.length)) (n - l.length) (zeros_length _)
  have HA := bs_append l (zeros (n - l.length))
  have hz : (bs (zeros (n - l.length))).size = n - l.length := by rw [bs_size, zeros_length]
  have ei : ((n - l.length : Nat) : Int) = (n : Int) - (l.length : Int) := by omega
  rw [ei] at hmk
  have EI := Lib.hid ei
  clear ei
  go_enter Try.func52, Try.ntmps52
  go_wp2_with fail
  go_ret
  exact ⟨rfl, bnew _ _⟩

/-- The numbers of two bytes that bytes are. -/
def gots : List UInt8 → List Int
  | a :: b :: l => ((a.toNat + 256 * b.toNat : Nat) : Int) :: gots l
  | _ => []
theorem gots_two (a b : UInt8) (l : List UInt8) : gots (a :: b :: l) = ((a.toNat + 256 * b.toNat : Nat) : Int) :: gots l := rfl
theorem gots_length : ∀ l : List UInt8, (gots l).length = l.length / 2
  | [] => rfl
  | [_] => by simp [gots]
  | a :: b :: l => by rw [gots_two, List.length_cons, gots_length l]; simp; omega
theorem ino_base {W : World} {base : Nat} {e : TypeId} {size : Nat} {v : Value} {n : Nat} {xs : List Value} (h : W.ownsRow base e size v n xs) {k : Nat} (hk : v.ownBlock = some k) : base ≤ k := by
  rcases h.2 with ⟨rfl, _⟩ | ⟨g, cap, cur, rfl, h0, hh, hr⟩
  · cases hk
  · cases hk
    exact h0
def u16s (zs : List Int) : List Value := zs.map (Value.int .u16)
theorem Try.infoU16 : (Try.prog.info? 40).map (fun i => (i.zero, i.size, i.bytes)) = some (some (.int .u16 0), 1, 2) := by kernel_rfl
theorem le_two (a b : UInt8) : le [a, b] = a.toNat + 256 * b.toNat := by simp [le]

set_option maxHeartbeats 2000000 in
theorem got_any (l : List UInt8) (hl : l.length ≤ 100000) (w : World) : Calls Try.prog 53 #[.string (bs l)] w fun e w' => (∃ v, e = .returned v ∧ w'.ownsRow w.heap.size 40 1 v (gots l).length (u16s (gots l))) ∧ Below w.heap.size w w' := by
  obtain ⟨i0, hi, hz0, hz1, hz2⟩ := info_parts Try.infoU16
  go_enter Try.func53, Try.ntmps53
  go_wp2_with fail
  go_loopw [0, 2] (fun s v wr => ∃ suf : List UInt8, ∃ xs : List Int, s = .string (bs suf) ∧ suf.length ≤ 100000 ∧ xs.length ≤ 100000 ∧ Hid (xs ++ gots suf = gots l) ∧ wr.ownsRow w.heap.size 40 1 v xs.length (u16s xs) ∧ Below w.heap.size w wr) (fun s _ _ => match s with | .string t => t.size | _ => 0)
  case atStart => exact ⟨l, [], rfl, hl, by simp, Lib.hid rfl, ⟨rfl, .inl ⟨rfl, rfl⟩⟩, Below.refl _ _⟩
  case round =>
    obtain ⟨suf, xs, rfl, hsl, hxl, HG, hown, hB⟩ := hrel
    match suf, hsl, HG with
    | [], hsl, HG =>
      have hs : (bs []).size = 0 := rfl
      go_wp2_with fail
      exact bodyPost_ret (v := u2) (by simp [results, Try.results53, go_sem]) rfl ⟨⟨u2, rfl, by have h := HG.out; simp only [gots, List.append_nil] at h; rw [← h]; exact hown⟩, hB⟩
    | [a], hsl, HG =>
      have hs : (bs [a]).size = 1 := bs_size [a]
      go_wp2_with fail
      exact bodyPost_ret (v := u2) (by simp [results, Try.results53, go_sem]) rfl ⟨⟨u2, rfl, by have h := HG.out; simp only [gots, List.append_nil] at h; rw [← h]; exact hown⟩, hB⟩
    | a :: b :: suf, hsl, HG =>
      have hs : (bs (a :: b :: suf)).size = suf.length + 2 := bs_size (a :: b :: suf)
      have ht := bs_take' (a :: b :: suf) 2
      have ht2 : (a :: b :: suf).take 2 = [a, b] := rfl
      rw [ht2] at ht
      have hd := bs_extract (a :: b :: suf) 2 (suf.length + 2)
      have hd2 : ((a :: b :: suf).take (suf.length + 2)).drop 2 = suf := by simp
      rw [hd2] at hd
      have hsl2 : suf.length ≤ 100000 := by simp at hsl; omega
      have hlen : xs.length + (suf.length / 2 + 1) ≤ 100000 := by
        have h := congrArg List.length HG.out
        rw [List.length_append, gots_two, List.length_cons, gots_length, gots_length] at h
        omega
      clear ht2 hd2 hsl
      go_wp2_with fail
      refine (get_bs [a, b] (by simp) _).mono ?_
      rw [le_two]
      have hab : a.toNat + 256 * b.toNat < 65536 := by have := a.toNat_lt; have := b.toNat_lt; omega
      have HV : Hid (gots (a :: b :: suf) = ((a.toNat + 256 * b.toNat : Nat) : Int) :: gots suf) := rfl
      generalize a.toNat + 256 * b.toNat = V at *
      rintro e w1 ⟨rfl, rfl⟩
      go_wp2_with (at_builtin; refine wpList_append_own _ rfl (.tmp 16) (.tmp 19) 58 rfl w.heap.size 40 i0 (.int .u16 0) 1 2 Try.underlying58 hi hz0 hz1 hz2 rfl (by decide) u2 xs.length (u16s xs) rfl ?_ ⟨wr.heap.size, 0, none⟩ 1 1 [.int .u16 (V : Int)] rfl rfl ?_ ?_ ?_ ?_ ?_ ?_)
      · exact hown.alloc _
      · intro j u hj
        rw [Addr.add_lit, Nat.zero_add, cl_of (hp_new wr _ rfl)]
        simpa using hj
      · intro u hu
        simp only [List.mem_singleton] at hu
        subst hu
        rfl
      · simp only [maxLen]
        omega
      · omega
      · have := hB.size
        simp
        omega
      intro v' w' hrow hg _
      have hB' := Below.grown (hB.alloc hB.size (.cells #[.int .u16 (V : Int)] 40)) hg (by have := hB.size; simp; omega) (fun k hk => ino_base hown hk)
      have hu : u16s xs ++ [.int .u16 (V : Int)] = u16s (xs ++ [(V : Int)]) := by simp [u16s]
      rw [hu] at hrow
      clear hu hg hown hB
      go_wp2_with fail
      go_roundw
      case rel => exact ⟨suf, xs ++ [(V : Int)], rfl, hsl2, by simp; omega, Lib.hid (by rw [← HG.out, HV.out]; simp), by simpa using hrow, hB'⟩
      case measure => simp [bs_size]; omega

set_option maxHeartbeats 1000000 in
theorem tell_any {v : Value} {zs : List Int} {w : World} (h : SlI .u16 w v zs) (hl : zs.length ≤ 32) : Calls Try.prog 33 #[v] w fun e w' => e = .returned (.tuple #[.string (bs (pby zs ++ zeros (64 - 2 * zs.length))), .int .i64 0]) ∧ Below w.heap.size w w' := by
  have h' := h
  obtain ⟨⟨ao, cap, rfl, -⟩, -⟩ := h'
  have hp := pby_length zs
  have HP := Lib.hid hp
  clear hp
  go_enter Try.func33, Try.ntmps33
  go_wp2_with fail
  refine (put_any h (by omega)).mono ?_
  rintro e w1 ⟨rfl, hB⟩
  go_wp2_with fail
  refine (pad_any (pby zs) 64 (by rw [HP.out]; omega) (by decide) _).mono ?_
  rw [HP.out]
  rintro e w2 ⟨rfl, hB2⟩
  go_wp2_with fail
  go_ret2
  exact ⟨rfl, bt hB hB2⟩
set_option maxHeartbeats 1000000 in
theorem tell_no {v : Value} {zs : List Int} {w : World} (h : SlI .u16 w v zs) (hl : 32 < zs.length) : Calls Try.prog 33 #[v] w fun e w' => e = .returned (.tuple #[.string (bs []), .int .i64 2]) ∧ w = w' := by
  obtain ⟨⟨ao, cap, rfl, -⟩, -⟩ := h
  go_enter Try.func33, Try.ntmps33
  go_wp2_with fail
  go_ret2
  exact ⟨rfl, rfl⟩
set_option maxHeartbeats 1000000 in
theorem told_yes (l : List UInt8) (hl : l.length = 64) (w : World) : Calls Try.prog 35 #[.string (bs l)] w fun e w' => (∃ v, e = .returned (.tuple #[v, .int .i64 0]) ∧ w'.ownsRow w.heap.size 40 1 v 32 (u16s (gots l))) ∧ Below w.heap.size w w' := by
  have hs : (bs l).size = 64 := by rw [bs_size, hl]
  go_enter Try.func35, Try.ntmps35
  go_wp2_with fail
  refine (got_any l (by omega) _).mono ?_
  rintro e w1 ⟨⟨v, rfl, hown⟩, hB⟩
  rw [gots_length, hl] at hown
  go_wp2_with fail
  go_ret2
  exact ⟨⟨v, rfl, hown⟩, hB⟩
set_option maxHeartbeats 1000000 in
theorem told_end (l : List UInt8) (hl : l.length < 64) (w : World) : Calls Try.prog 35 #[.string (bs l)] w fun e w' => e = .returned (.tuple #[.slice none 0 0, .int .i64 6]) ∧ w = w' := by
  have hs := bs_size l
  go_enter Try.func35, Try.ntmps35
  go_wp2_with fail
  go_ret2
  exact ⟨rfl, rfl⟩
set_option maxHeartbeats 1000000 in
theorem told_form (l : List UInt8) (hl : 64 < l.length) (w : World) : Calls Try.prog 35 #[.string (bs l)] w fun e w' => e = .returned (.tuple #[.slice none 0 0, .int .i64 7]) ∧ w = w' := by
  have hs := bs_size l
  go_enter Try.func35, Try.ntmps35
  go_wp2_with fail
  go_ret2
  exact ⟨rfl, rfl⟩
end Go.Proofs.Ytcdmipgopffaaaa
