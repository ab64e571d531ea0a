/- Bytes of a text that are turned one by one; numbers' bounds. package inode: the walks through Pages, put, pad, got, Tell, Told. An inode as numbers; struct equality. -/
import Derived.Test.YtjjphcnoegaimaaGreatGF
import Derived.Laws.BitsAllLaws
import Derived.Test.YtjjphcnoegaimaaGreatSlice
import Derived.Test.YtjjphcnoegaimaaGreatGA
import Derived.Deep.RegionHeld3
import Derived.Laws.StructEq
namespace Go.Proofs.YtjjphcnoegaimaaGreat
open Go.RowKit

theorem wfu8 {x : Int} (h : (Lit.int .u8 x).wf = true) : 0 ≤ x ∧ x < 256 := by
  simp [Lit.wf, IntKind.min, IntKind.max, IntKind.signed, IntKind.bits] at h
  omega
theorem wfu16 {x : Int} (h : (Lit.int .u16 x).wf = true) : 0 ≤ x ∧ x < 65536 := by
  simp [Lit.wf, IntKind.min, IntKind.max, IntKind.signed, IntKind.bits] at h
  omega
theorem wfu32 {x : Int} (h : (Lit.int .u32 x).wf = true) : 0 ≤ x ∧ x < 4294967296 := by
  simp [Lit.wf, IntKind.min, IntKind.max, IntKind.signed, IntKind.bits] at h
  omega
theorem wfi64 {x : Int} (h : (Lit.int .i64 x).wf = true) : -9223372036854775808 ≤ x ∧ x < 9223372036854775808 := by
  simp [Lit.wf, IntKind.min, IntKind.max, IntKind.signed, IntKind.bits] at h
  omega

/-- Bytes that lie in a block. -/
def BB (W : World) (b : Nat) (l : List UInt8) : Prop := ∀ i (h : i < l.length), W.cell? ⟨b, i, none⟩ = some (.int .u8 (l[i].toNat : Int)) ∧ W.frozen? ⟨b, i, none⟩ = false

theorem bytes_of' {P : Program} (w : World) (src dst e : TypeId) (l : List UInt8) (hs : P.underlying src = some .string) (hd : P.underlying dst = some (.slice e)) (he : P.underlying e = some (.int .u8)) :
    ∃ cap W0, (convert src dst (.string (bs l))).run P w = .ok (.slice (some ⟨w.heap.size, 0, none⟩) l.length cap) W0 ∧ BB W0 w.heap.size l ∧ Below w.heap.size w W0 ∧ w.heap.size < W0.heap.size := by
  have h := run_bytes_of_string (P := P) w src dst e (bs l) hs hd he
  rw [bs_size] at h
  refine ⟨_, _, h, ?_, ((Below.refl _ w).drew.alloc (Nat.le_refl _) _), by simp⟩
  intro i hi
  have hb := bytesRow_at (bs l) (grownCap w l.length 0 e) i (by simpa [bs] using hi)
  have hsz : i < (bytesRow (bs l) (grownCap w l.length 0 e)).size := by
    rcases Nat.lt_or_ge i (bytesRow (bs l) (grownCap w l.length 0 e)).size with h' | h'
    · exact h'
    · rw [Array.getElem?_eq_none h'] at hb; cases hb
  refine ⟨?_, ?_⟩
  · have := World.cell?_alloc_mark w.drew (bytesRow (bs l) (grownCap w l.length 0 e)) e ((bytesRow (bs l) (grownCap w l.length 0 e)).size, (bytesRow (bs l) (grownCap w l.length 0 e)).size + 1) i
    refine this.trans (hb.trans ?_)
    simp [bs]
  · have := World.frozen?_alloc_mark w.drew (bytesRow (bs l) (grownCap w l.length 0 e)) e (bytesRow (bs l) (grownCap w l.length 0 e)).size ((bytesRow (bs l) (grownCap w l.length 0 e)).size + 1) i
    refine this.trans ?_
    simp; omega

theorem BB.set {W : World} {b : Nat} {l : List UInt8} (h : BB W b l) {i : Nat} (_hi : i < l.length) (v : UInt8) : BB (W.setCell ⟨b, i, none⟩ (.int .u8 (v.toNat : Int))) b (l.set i v) := by
  intro j hj
  rw [List.length_set] at hj
  obtain ⟨hc, hf⟩ := h j hj
  refine ⟨?_, by rw [World.frozen?_setCell]; exact hf⟩
  by_cases e : i = j
  · subst e
    rw [List.getElem_set_self]
    exact World.cell?_setCell_same' W ⟨b, i, none⟩ _ (by rw [hc]; rfl)
  · rw [List.getElem_set_ne e]
    exact (World.cell?_setCell_other _ _ _ _ (fun h => e (by cases h; rfl))).trans hc
theorem BB.below {W W' : World} {b : Nat} {l : List UInt8} (h : BB W b l) (hb : Below W.heap.size W W') (hlt : b < W.heap.size) : BB W' b l := by
  intro i hi
  obtain ⟨h1, h2⟩ := h i hi
  exact ⟨(hb.cell (p := ⟨b, i, none⟩) hlt).trans h1, (hb.frozen (p := ⟨b, i, none⟩) hlt).trans h2⟩
theorem BB.back {P : Program} {W : World} {b : Nat} {l : List UInt8} (h : BB W b l) (n cap : Nat) (hn : l.length = n) {src dst e : TypeId} (hs : P.underlying src = some (.slice e)) (he : P.underlying e = some (.int .u8)) (hd : P.underlying dst = some .string) :
    (convert src dst (.slice (some ⟨b, 0, none⟩) n cap)).run P W = .ok (.string (bs l)) W := by
  subst hn
  exact run_convert_bytes_back (P := P) W src dst e ⟨b, 0, none⟩ cap l hs he hd (fun j hj => by
    rw [Addr.add_lit, Nat.zero_add]; exact (h j hj).1)
end Go.Proofs.YtjjphcnoegaimaaGreat

namespace Go.Proofs.YtjjphcnoegaimaaGreat
open Go.RowKit
set_option maxRecDepth 20000

def pages (n : Int) : Int := (n + 64 - 1) / 64
theorem wfu16_mem {zs : List Int} (h : ∀ n ∈ zs, (Lit.int .u16 n).wf = true) {k : Nat} (hk : k < zs.length) : 0 ≤ zs.getD k 0 ∧ zs.getD k 0 < 65536 := by
  rw [List.getD_eq_getElem?_getD, List.getElem?_eq_getElem hk, Option.getD_some]
  exact wfu16 (h _ (List.getElem_mem hk))

/-- Numbers of two bytes, one behind the other. -/
def pby (zs : List Int) : List UInt8 := zs.flatMap fun z => bytesLE z.toNat 2
theorem pby_snoc (zs : List Int) {k : Nat} (hk : k < zs.length) : pby (zs.take (k + 1)) = pby (zs.take k) ++ bytesLE (zs.getD k 0).toNat 2 := by
  rw [pby, List.take_succ_eq_append_getElem hk, List.flatMap_append, List.getD_eq_getElem?_getD, List.getElem?_eq_getElem hk, Option.getD_some]
  simp [pby]
theorem pby_length (zs : List Int) : (pby zs).length = 2 * zs.length := by
  induction zs with
  | nil => rfl
  | cons z zs ih => simp only [pby, List.flatMap_cons, List.length_append, bytesLE_length, List.length_cons] at ih ⊢; omega

set_option maxHeartbeats 1000000 in
theorem put_any {v : Value} {zs : List Int} {w : World} (h : SlI .u16 w v zs) (hl : zs.length ≤ 1000) : Calls Tryz.prog 117 #[v] w fun e w' => e = .returned (.string (bs (pby zs))) ∧ Below w.heap.size w w' := by
  obtain ⟨⟨ao, cap, rfl, hcs⟩, hwf⟩ := h
  have HC := Lib.hid hcs
  have HW := Lib.hid hwf
  clear hcs hwf
  go_enter Tryz.func117, Tryz.ntmps117
  go_wp2_with fail
  go_loopw [2, 9] (fun s v wr => ∃ k : Nat, ∃ l : List UInt8, k ≤ zs.length ∧ v = .int .i64 k ∧ s = .string (bs l) ∧ Hid (l = pby (zs.take k)) ∧ Below w.heap.size w wr) (fun _ v _ => zs.length - (intOf v).toNat)
  case atStart => exact ⟨0, [], by omega, rfl, rfl, rfl, Below.refl _ _⟩
  case round =>
    obtain ⟨k, l, hk, rfl, rfl, HL, hB⟩ := hrel
    by_cases hlt : k < zs.length
    · obtain ⟨b, off, rfl, hbl, hcell⟩ := HC.out (by omega)
      have hc := (hB.cell (p := ⟨b, off + k, none⟩) hbl).trans (hcell k hlt)
      have hz := wfu16_mem HW.out hlt
      have HP := Lib.hid (pby_snoc zs hlt)
      have hll : l.length ≤ 2000 := by rw [HL.out, pby_length, List.length_take]; omega
      have hs := bs_size l
      generalize zs.getD k 0 = z at *
      clear hcell
      go_wp2_with fail
      refine (num_any' z 2 (by omega) (by omega) (by decide) (by decide) (.inr (by show z.toNat < 256 ^ 2; omega)) _).mono ?_
      rintro e w2 ⟨rfl, hB4⟩
      have h4 : (bs (bytesLE z.toNat 2)).size = 2 := by rw [bs_size, bytesLE_length]
      have HA := bs_append l (bytesLE z.toNat 2)
      go_wp2_with fail
      go_roundw
      case rel => exact ⟨k + 1, l ++ bytesLE z.toNat 2, by omega, by go_num, rfl, Lib.hid (by rw [HP.out, HL.out]), bt hB hB4⟩
      case measure => simp [intOf]; omega
    · obtain rfl : k = zs.length := by omega
      go_wp2_with fail
      go_ret
      exact ⟨by rw [HL.out, List.take_length]; rfl, hB⟩

set_option maxHeartbeats 1000000 in
theorem pad_any (l : List UInt8) (n : Nat) (h : l.length ≤ n) (hn : n ≤ 100000) (w : World) : Calls Tryz.prog 116 #[.string (bs l), .int .i64 n] w fun e w' => e = .returned (.string (bs (l ++ zeros (n - l.length)))) ∧ Below w.heap.size w w' := by
  have hs := bs_size l
  have hmk := make_zeros (n - l.length) (by omega)
  have hcv := conv_new (zeros (n - l.length)) (n - l.length) (zeros_length _)
  have HA := bs_append l (zeros (n - l.length))
  have hz : (bs (zeros (n - l.length))).size = n - l.length := by rw [bs_size, zeros_length]
  have ei : ((n - l.length : Nat) : Int) = (n : Int) - (l.length : Int) := by omega
  rw [ei] at hmk
  have EI := Lib.hid ei
  clear ei
  go_enter Tryz.func116, Tryz.ntmps116
  go_wp2_with fail
  go_ret
  exact ⟨rfl, bnew _ _⟩

/-- The numbers of two bytes that bytes are. -/
def gots : List UInt8 → List Int
  | a :: b :: l => ((a.toNat + 256 * b.toNat : Nat) : Int) :: gots l
  | _ => []
theorem gots_two (a b : UInt8) (l : List UInt8) : gots (a :: b :: l) = ((a.toNat + 256 * b.toNat : Nat) : Int) :: gots l := rfl
theorem gots_length : ∀ l : List UInt8, (gots l).length = l.length / 2
  | [] => rfl
  | [_] => by simp [gots]
  | a :: b :: l => by rw [gots_two, List.length_cons, gots_length l]; simp; omega
theorem ino_base {W : World} {base : Nat} {e : TypeId} {size : Nat} {v : Value} {n : Nat} {xs : List Value} (h : W.ownsRow base e size v n xs) {k : Nat} (hk : v.ownBlock = some k) : base ≤ k := by
  rcases h.2 with ⟨rfl, _⟩ | ⟨g, cap, cur, rfl, h0, hh, hr⟩
  · cases hk
  · cases hk
    exact h0
def u16s (zs : List Int) : List Value := zs.map (Value.int .u16)
theorem Tryz.infoU16 : (Tryz.prog.info? 57).map (fun i => (i.zero, i.size, i.bytes)) = some (some (.int .u16 0), 1, 2) := by kernel_rfl
theorem le_two (a b : UInt8) : le [a, b] = a.toNat + 256 * b.toNat := by simp [le]

set_option maxHeartbeats 2000000 in
theorem got_any (l : List UInt8) (hl : l.length ≤ 100000) (w : World) : Calls Tryz.prog 115 #[.string (bs l)] w fun e w' => (∃ v, e = .returned v ∧ w'.ownsRow w.heap.size 57 1 v (gots l).length (u16s (gots l))) ∧ Below w.heap.size w w' := by
  obtain ⟨i0, hi, hz0, hz1, hz2⟩ := info_parts Tryz.infoU16
  go_enter Tryz.func115, Tryz.ntmps115
  go_wp2_with fail
  go_loopw [0, 2] (fun s v wr => ∃ suf : List UInt8, ∃ xs : List Int, s = .string (bs suf) ∧ suf.length ≤ 100000 ∧ xs.length ≤ 100000 ∧ Hid (xs ++ gots suf = gots l) ∧ wr.ownsRow w.heap.size 57 1 v xs.length (u16s xs) ∧ Below w.heap.size w wr) (fun s _ _ => match s with | .string t => t.size | _ => 0)
  case atStart => exact ⟨l, [], rfl, hl, by simp, Lib.hid rfl, ⟨rfl, .inl ⟨rfl, rfl⟩⟩, Below.refl _ _⟩
  case round =>
    obtain ⟨suf, xs, rfl, hsl, hxl, HG, hown, hB⟩ := hrel
    match suf, hsl, HG with
    | [], hsl, HG =>
      have hs : (bs []).size = 0 := rfl
      go_wp2_with fail
      exact bodyPost_ret (v := u2) (by simp [results, Tryz.results115, go_sem]) rfl ⟨⟨u2, rfl, by have h := HG.out; simp only [gots, List.append_nil] at h; rw [← h]; exact hown⟩, hB⟩
    | [a], hsl, HG =>
      have hs : (bs [a]).size = 1 := bs_size [a]
      go_wp2_with fail
      exact bodyPost_ret (v := u2) (by simp [results, Tryz.results115, go_sem]) rfl ⟨⟨u2, rfl, by have h := HG.out; simp only [gots, List.append_nil] at h; rw [← h]; exact hown⟩, hB⟩
    | a :: b :: suf, hsl, HG =>
      have hs : (bs (a :: b :: suf)).size = suf.length + 2 := bs_size (a :: b :: suf)
      have ht := bs_take' (a :: b :: suf) 2
      have ht2 : (a :: b :: suf).take 2 = [a, b] := rfl
      rw [ht2] at ht
      have hd := bs_extract (a :: b :: suf) 2 (suf.length + 2)
      have hd2 : ((a :: b :: suf).take (suf.length + 2)).drop 2 = suf := by simp
      rw [hd2] at hd
      have hsl2 : suf.length ≤ 100000 := by simp at hsl; omega
      have hlen : xs.length + (suf.length / 2 + 1) ≤ 100000 := by
        have h := congrArg List.length HG.out
        rw [List.length_append, gots_two, List.length_cons, gots_length, gots_length] at h
        omega
      clear ht2 hd2 hsl
      go_wp2_with fail
      refine (get_bs [a, b] (by simp) _).mono ?_
      rw [le_two]
      have hab : a.toNat + 256 * b.toNat < 65536 := by have := a.toNat_lt; have := b.toNat_lt; omega
      have HV : Hid (gots (a :: b :: suf) = ((a.toNat + 256 * b.toNat : Nat) : Int) :: gots suf) := rfl
      generalize a.toNat + 256 * b.toNat = V at *
      rintro e w1 ⟨rfl, rfl⟩
      go_wp2_with (at_builtin; refine wpList_append_own _ rfl (.tmp 16) (.tmp 19) 68 rfl w.heap.size 57 i0 (.int .u16 0) 1 2 Tryz.underlying68 hi hz0 hz1 hz2 rfl (by decide) u2 xs.length (u16s xs) rfl ?_ ⟨wr.heap.size, 0, none⟩ 1 1 [.int .u16 (V : Int)] rfl rfl ?_ ?_ ?_ ?_ ?_ ?_)
      · exact hown.alloc _
      · intro j u hj
        rw [Addr.add_lit, Nat.zero_add, cl_of (hp_new wr _ rfl)]
        simpa using hj
      · intro u hu
        simp only [List.mem_singleton] at hu
        subst hu
        rfl
      · simp only [maxLen]
        omega
      · omega
      · have := hB.size
        simp
        omega
      intro v' w' hrow hg _
      have hB' := Below.grown (hB.alloc hB.size (.cells #[.int .u16 (V : Int)] 57)) hg (by have := hB.size; simp; omega) (fun k hk => ino_base hown hk)
      have hu : u16s xs ++ [.int .u16 (V : Int)] = u16s (xs ++ [(V : Int)]) := by simp [u16s]
      rw [hu] at hrow
      clear hu hg hown hB
      go_wp2_with fail
      go_roundw
      case rel => exact ⟨suf, xs ++ [(V : Int)], rfl, hsl2, by simp; omega, Lib.hid (by rw [← HG.out, HV.out]; simp), by simpa using hrow, hB'⟩
      case measure => simp [bs_size]; omega

set_option maxHeartbeats 1000000 in
theorem tell_any {v : Value} {zs : List Int} {w : World} (h : SlI .u16 w v zs) (hl : zs.length ≤ 32) : Calls Tryz.prog 89 #[v] w fun e w' => e = .returned (.tuple #[.string (bs (pby zs ++ zeros (64 - 2 * zs.length))), .int .i64 0]) ∧ Below w.heap.size w w' := by
  have h' := h
  obtain ⟨⟨ao, cap, rfl, -⟩, -⟩ := h'
  have hp := pby_length zs
  have HP := Lib.hid hp
  clear hp
  go_enter Tryz.func89, Tryz.ntmps89
  go_wp2_with fail
  refine (put_any h (by omega)).mono ?_
  rintro e w1 ⟨rfl, hB⟩
  go_wp2_with fail
  refine (pad_any (pby zs) 64 (by rw [HP.out]; omega) (by decide) _).mono ?_
  rw [HP.out]
  rintro e w2 ⟨rfl, hB2⟩
  go_wp2_with fail
  go_ret2
  exact ⟨rfl, bt hB hB2⟩
set_option maxHeartbeats 1000000 in
theorem tell_no {v : Value} {zs : List Int} {w : World} (h : SlI .u16 w v zs) (hl : 32 < zs.length) : Calls Tryz.prog 89 #[v] w fun e w' => e = .returned (.tuple #[.string (bs []), .int .i64 2]) ∧ w = w' := by
  obtain ⟨⟨ao, cap, rfl, -⟩, -⟩ := h
  go_enter Tryz.func89, Tryz.ntmps89
  go_wp2_with fail
  go_ret2
  exact ⟨rfl, rfl⟩
set_option maxHeartbeats 1000000 in
theorem told_yes (l : List UInt8) (hl : l.length = 64) (w : World) : Calls Tryz.prog 88 #[.string (bs l)] w fun e w' => (∃ v, e = .returned (.tuple #[v, .int .i64 0]) ∧ w'.ownsRow w.heap.size 57 1 v 32 (u16s (gots l))) ∧ Below w.heap.size w w' := by
  have hs : (bs l).size = 64 := by rw [bs_size, hl]
  go_enter Tryz.func88, Tryz.ntmps88
  go_wp2_with fail
  refine (got_any l (by omega) _).mono ?_
  rintro e w1 ⟨⟨v, rfl, hown⟩, hB⟩
  rw [gots_length, hl] at hown
  go_wp2_with fail
  go_ret2
  exact ⟨⟨v, rfl, hown⟩, hB⟩
set_option maxHeartbeats 1000000 in
theorem told_end (l : List UInt8) (hl : l.length < 64) (w : World) : Calls Tryz.prog 88 #[.string (bs l)] w fun e w' => e = .returned (.tuple #[.slice none 0 0, .int .i64 6]) ∧ w = w' := by
  have hs := bs_size l
  go_enter Tryz.func88, Tryz.ntmps88
  go_wp2_with fail
  go_ret2
  exact ⟨rfl, rfl⟩
set_option maxHeartbeats 1000000 in
theorem told_form (l : List UInt8) (hl : 64 < l.length) (w : World) : Calls Tryz.prog 88 #[.string (bs l)] w fun e w' => e = .returned (.tuple #[.slice none 0 0, .int .i64 7]) ∧ w = w' := by
  have hs := bs_size l
  go_enter Tryz.func88, Tryz.ntmps88
  go_wp2_with fail
  go_ret2
  exact ⟨rfl, rfl⟩
end Go.Proofs.YtjjphcnoegaimaaGreat

namespace Go.Proofs.YtjjphcnoegaimaaGreat
open Go.RowKit
set_option maxRecDepth 20000

/-- An inode. -/
structure Ino where
  k : Int
  l : Int
  s : Int
  d0 : Int
  d1 : Int
  d2 : Int
  d3 : Int
  n : Int
deriving DecidableEq
def Ino.zero : Ino := ⟨0, 0, 0, 0, 0, 0, 0, 0⟩
structure Ino.Wf (x : Ino) : Prop where
  k : 0 ≤ x.k ∧ x.k < 256
  l : 0 ≤ x.l ∧ x.l < 65536
  s : 0 ≤ x.s ∧ x.s < 4294967296
  d0 : 0 ≤ x.d0 ∧ x.d0 < 65536
  d1 : 0 ≤ x.d1 ∧ x.d1 < 65536
  d2 : 0 ≤ x.d2 ∧ x.d2 < 65536
  d3 : 0 ≤ x.d3 ∧ x.d3 < 65536
  n : 0 ≤ x.n ∧ x.n < 65536
def Ino.ds (x : Ino) : List Int := [x.d0, x.d1, x.d2, x.d3, x.n]
/-- An inode's cells. -/
def ic (x : Ino) : Array Value := #[.int .u8 x.k, .int .u16 x.l, .int .u32 x.s, .int .u16 x.d0, .int .u16 x.d1, .int .u16 x.d2, .int .u16 x.d3, .int .u16 x.n]
def ieq (a b : Ino) : Bool := decide (a = b)
def deq (a0 a1 a2 a3 b0 b1 b2 b3 : Int) : Bool := decide (a0 = b0 ∧ a1 = b1 ∧ a2 = b2 ∧ a3 = b3)
theorem eq_arr (d : Nat) (a0 a1 a2 a3 b0 b1 b2 b3 : Int) (w : World) : (Op.equalIn (d + 2) 59 (.agg #[.int .u16 a0, .int .u16 a1, .int .u16 a2, .int .u16 a3]) (.agg #[.int .u16 b0, .int .u16 b1, .int .u16 b2, .int .u16 b3])).run Tryz.prog w = .ok (deq a0 a1 a2 a3 b0 b1 b2 b3) w := by
  have u3 := Tryz.underlying57
  have a3' := Tryz.isAgg57
  have z3 := Tryz.sizeOf57
  rw [show d + 2 = (d + 1) + 1 from rfl, Op.equalIn]
  simp only [Sem.run_bind, run_underlying Tryz.underlying59, Result.andThen_ok]
  simp only [Std.Legacy.Range.forIn_eq_forIn_range', Std.Legacy.Range.size, Nat.sub_zero, Nat.add_sub_cancel, Nat.div_one, List.range'_succ, List.range'_zero, List.forIn_cons, List.forIn_nil]
  go_simp
  unfold deq
  by_cases h1 : a0 = b0 <;> by_cases h2 : a1 = b1 <;> by_cases h3 : a2 = b2 <;> by_cases h4 : a3 = b3 <;> simp [h1, h2, h3, h4]
theorem eq_ino (a b : Ino) (w : World) : (Op.equalIn 10000 61 (.agg #[.int .u8 a.k, .int .u16 a.l, .int .u32 a.s, .int .u16 a.d0, .int .u16 a.d1, .int .u16 a.d2, .int .u16 a.d3, .int .u16 a.n]) (.agg #[.int .u8 b.k, .int .u16 b.l, .int .u32 b.s, .int .u16 b.d0, .int .u16 b.d1, .int .u16 b.d2, .int .u16 b.d3, .int .u16 b.n])).run Tryz.prog w = .ok (ieq a b) w := by
  have u3 := Tryz.underlying57
  have a3' := Tryz.isAgg57
  have u4 := Tryz.underlying5
  have a4' := Tryz.isAgg5
  have u5 := Tryz.underlying58
  have a5' := Tryz.isAgg58
  have a6' := Tryz.isAgg59
  have z6 := Tryz.sizeOf59
  have ea := eq_arr 9997 a.d0 a.d1 a.d2 a.d3 b.d0 b.d1 b.d2 b.d3
  rw [show (10000 : Nat) = 9999 + 1 by rfl, run_equalIn_struct (P := Tryz.prog) w 9999 61 _ _ (by kernel_rfl) (by kernel_rfl)]
  simp only [Program.fieldsOf, Tryz.underlying61]
  go_simp
  obtain ⟨ak, al, az, a0, a1, a2, a3, an⟩ := a
  obtain ⟨bk, bl, bss, b0, b1, b2, b3, bn⟩ := b
  simp only [ieq, deq, Ino.mk.injEq]
  by_cases h1 : ak = bk
  · by_cases h2 : al = bl
    · by_cases h3 : az = bss
      · by_cases h4 : a0 = b0 ∧ a1 = b1 ∧ a2 = b2 ∧ a3 = b3
        · by_cases h5 : an = bn <;> simp [h1, h2, h3, h4, h5]
        · have : ¬ (a0 = b0 ∧ a1 = b1 ∧ a2 = b2 ∧ a3 = b3 ∧ an = bn) := fun h => h4 ⟨h.1, h.2.1, h.2.2.1, h.2.2.2.1⟩
          simp [h1, h2, h3, h4, this]
      · simp [h1, h2, h3]
    · simp [h1, h2]
  · simp [h1]

/-- The block of a page without an indirect one. -/
def Ino.d (x : Ino) (k : Nat) : Int := [x.d0, x.d1, x.d2, x.d3].getD k 0
theorem Ino.d_cell (x : Ino) {k : Nat} (hk : k < 4) : (ic x)[3 + k]? = some (.int .u16 (x.d k)) := by
  have : k = 0 ∨ k = 1 ∨ k = 2 ∨ k = 3 := by omega
  rcases this with rfl | rfl | rfl | rfl <;> rfl
theorem dir_at (x : Ino) {k : Nat} (hk : k < 4) (w : World) : (Instr.index 59 (.agg #[.int .u16 x.d0, .int .u16 x.d1, .int .u16 x.d2, .int .u16 x.d3]) (.int .i64 k)).run Tryz.prog w = .ok (.int .u16 (x.d k)) w := by
  have h0 : (Instr.index 59 (.agg #[.int .u16 x.d0, .int .u16 x.d1, .int .u16 x.d2, .int .u16 x.d3]) (.int .i64 (0 : Nat))).run Tryz.prog w = .ok (.int .u16 (x.d 0)) w := by kernel_rfl
  have h1 : (Instr.index 59 (.agg #[.int .u16 x.d0, .int .u16 x.d1, .int .u16 x.d2, .int .u16 x.d3]) (.int .i64 (1 : Nat))).run Tryz.prog w = .ok (.int .u16 (x.d 1)) w := by kernel_rfl
  have h2 : (Instr.index 59 (.agg #[.int .u16 x.d0, .int .u16 x.d1, .int .u16 x.d2, .int .u16 x.d3]) (.int .i64 (2 : Nat))).run Tryz.prog w = .ok (.int .u16 (x.d 2)) w := by kernel_rfl
  have h3 : (Instr.index 59 (.agg #[.int .u16 x.d0, .int .u16 x.d1, .int .u16 x.d2, .int .u16 x.d3]) (.int .i64 (3 : Nat))).run Tryz.prog w = .ok (.int .u16 (x.d 3)) w := by kernel_rfl
  have : k = 0 ∨ k = 1 ∨ k = 2 ∨ k = 3 := by omega
  rcases this with rfl | rfl | rfl | rfl
  · exact h0
  · exact h1
  · exact h2
  · exact h3
end Go.Proofs.YtjjphcnoegaimaaGreat
