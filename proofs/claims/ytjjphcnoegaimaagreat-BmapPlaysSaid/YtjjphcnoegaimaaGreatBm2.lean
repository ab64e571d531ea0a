/- Package bmap: told, tell. -/
import Derived.Test.YtjjphcnoegaimaaGreatBm1
namespace Go.Proofs.YtjjphcnoegaimaaGreat
open Go.RowKit Go.Shelf Go.Maps
set_option maxRecDepth 20000
set_option linter.unusedVariables false

/-- All that was written are sectors. -/
def Sz (M : Wl) : Prop := ∀ x ∈ M, x.2.size = 64
theorem Sz.put {M : Wl} (h : Sz M) (k : Int) {b : ByteArray} (hb : b.size = 64) : Sz (pins k b M) := fun x hx => by
  rcases pins_keys _ _ _ x hx with rfl | hx
  · exact hb
  · exact h x hx
/-- A sector of a new device, as a transaction reads it. -/
def rd (M : Wl) (i : Nat) : ByteArray := (pget i M).getD zsec
theorem rd_size {M : Wl} (h : Sz M) (i : Nat) : (rd M i).size = 64 := by
  unfold rd
  cases hg : pget (i : Int) M with
  | none => rfl
  | some b => exact h _ (pget_mem hg)
/-- What an indirect block tells, where it lies at a sector. -/
def toldL (x : Ino) (M : Wl) (bs : Nat) : List Int := if x.n = 0 then List.replicate 32 0 else gots (rd M bs).data.toList
theorem toldL_length (x : Ino) {M : Wl} (h : Sz M) (bs : Nat) : (toldL x M bs).length = 32 := by
  unfold toldL
  split
  · simp
  · rw [gots_length, Array.length_toList]
    have : (rd M bs).data.size = 64 := rd_size h bs
    rw [this]
section
variable {w0 w W W' : World} {X : Nat → Prop} {p jb N tb m bsn : Nat} {M : Wl} {i b j : Int} {x : Ino}
/-- Where things lie. -/
structure GeoN (i b j : Int) (N : Nat) : Prop where
  m : Mays i b j
  n : (N : Int) = fr i b j 6
theorem fr6 (i b j : Int) : fr i b j 6 = fr i b j 5 + b := fr_succ i b j (by decide)
theorem Tryz.infoU16' : (Tryz.prog.info? 57).map (fun i => (i.zero, i.size, i.bytes)) = some (some (.int .u16 0), 1, 2) := by kernel_rfl
set_option maxHeartbeats 4000000 in
theorem btold_any (h : TJ w0 X p jb N 0 1 40 0 0 (newS N) tb m M false W) (hg : GeoN i b j N) (hx : x.Wf) (hn : x.n ≤ b) (hs : Sz M) (hb : x.n ≠ 0 → (bsn : Int) = fr i b j 5 + x.n - 1) :
    Calls Tryz.prog 57 #[.pointer (some ⟨tb, 0, none⟩), gv i b j, .agg (ic x)] W fun e W' => ∃ v, e = .returned (.tuple #[v, .int .i64 0]) ∧ W'.ownsRow W.heap.size 57 1 v 32 (u16s (toldL x M bsn)) ∧ Below W.heap.size W W' := by
  unfold gv ic
  have HH := Lib.hid h
  have HX := Lib.hid hx
  have hB1 : Below W.heap.size W ((W.alloc (.cells #[.int .i64 i, .int .i64 b, .int .i64 j] 56)).alloc (.cells #[.int .u8 x.k, .int .u16 x.l, .int .u32 x.s, .int .u16 x.d0, .int .u16 x.d1, .int .u16 x.d2, .int .u16 x.d3, .int .u16 x.n] 61)) := bal (bnew _ _) _
  have b6 := hp_old (W.alloc (.cells #[.int .i64 i, .int .i64 b, .int .i64 j] 56)) (.cells #[.int .u8 x.k, .int .u16 x.l, .int .u32 x.s, .int .u16 x.d0, .int .u16 x.d1, .int .u16 x.d2, .int .u16 x.d3, .int .u16 x.n] 61) (k := W.heap.size) (by simp)
  rw [hp_new W _ rfl] at b6
  have b7 := hp_new (W.alloc (.cells #[.int .i64 i, .int .i64 b, .int .i64 j] 56)) (.cells #[.int .u8 x.k, .int .u16 x.l, .int .u32 x.s, .int .u16 x.d0, .int .u16 x.d1, .int .u16 x.d2, .int .u16 x.d3, .int .u16 x.n] 61) (k := W.heap.size + 1) (by simp)
  by_cases hz : x.n = 0
  · have hl : toldL x M bsn = List.replicate 32 0 := if_pos hz
    have HL := Lib.hid hl
    have e0 : (x.n == 0) = true := by simpa using hz
    have hmk : ∀ W, (Instr.makeSlice 68 (.int .i64 32) (.int .i64 32)).run Tryz.prog W = .ok (.slice (some ⟨W.heap.size, 0, none⟩) 32 32) (W.alloc (.cells (madeCells #[.int .u16 0] 32) 57)) := fun W => run_make_row' (P := Tryz.prog) 68 57 (.int .u16 0) 2 Tryz.underlying68 Tryz.infoU16' rfl .i64 .i64 32 (by decide) (by decide) W
    have HB1 := Lib.hid hB1
    clear h hx hb hl hz b6 b7 hB1 hn
    go_enter Tryz.func57, Tryz.ntmps57
    go_wp2_with fail
    go_ret2
    have hmc : (madeCells #[Value.int .u16 0] 32).toList = u16s (List.replicate 32 0) := by kernel_rfl
    refine ⟨_, rfl, ?_, bal HB1.out _⟩
    rw [HL.out]
    refine ⟨by simp [u16s], .inr ⟨_, 32, madeCells #[Value.int .u16 0] 32, rfl, ?_, hp_new _ _ (by simp), Nat.le_refl _, by decide, by kernel_rfl, ?_⟩⟩
    · omega
    · rw [hmc]; rfl
  · have hl : toldL x M bsn = gots (rd M bsn).data.toList := if_neg hz
    have hbs := hb hz
    have hfr := fr6 i b j
    have hf5 := fr_bd hg.m (show 5 ≤ 6 by decide)
    have hn0 := hx.n
    have hbN : bsn < N := by have := hg.n; omega
    have hblk := fun W => block_yes (n := x.n) hg.m (by omega) hn W
    rw [← hbs] at hblk
    have hsz := rd_size hs bsn
    have hrd := fun (W2 : World) (hB : Below W.heap.size W W2) => tx_read (h.of hB) rfl bsn hbN
    have hnw : newest (newS N) bsn = zsec := (newS_JL N 1).newest hbN
    rw [hnw] at hrd
    have htd := fun W => told_yes (rd M bsn).data.toList (by rw [Array.length_toList]; exact hsz) W
    rw [bs_of] at htd
    have HRD : Hid (∀ (W2 : World), Below W.heap.size W W2 → Calls Tryz.prog 39 #[.pointer (some ⟨tb, 0, none⟩), .int .i64 bsn] W2 fun e W' => e = .returned (.tuple #[.string (rd M bsn), .int .i64 0]) ∧ Below W2.heap.size W2 W') := Lib.hid hrd
    generalize rd M bsn = c at *
    have HL := Lib.hid hl
    have HBL := Lib.hid hblk
    have HTD := Lib.hid htd
    have e0 : (x.n == 0) = false := by simpa using hz
    clear h hx hb hl hz hn hblk hrd htd hnw hsz hn0 hf5 hfr hbs
    go_enter Tryz.func57, Tryz.ntmps57
    go_wp2_with fail
    obtain ⟨W1, hW1⟩ : ∃ W1, (W.alloc (.cells #[.int .i64 i, .int .i64 b, .int .i64 j] 56)).alloc (.cells #[.int .u8 x.k, .int .u16 x.l, .int .u32 x.s, .int .u16 x.d0, .int .u16 x.d1, .int .u16 x.d2, .int .u16 x.d3, .int .u16 x.n] 61) = W1 := ⟨_, rfl⟩
    rw [hW1] at hB1 b6 b7
    simp only [hW1]
    have HB1 := Lib.hid hB1
    clear hW1 b6 b7 hB1
    refine (HBL.out _).mono ?_
    rintro e w2 ⟨rfl, hB2⟩
    have HB2 := Lib.hid (bt HB1.out hB2)
    clear hB2
    go_wp2_with fail
    refine (HRD.out _ HB2.out).mono ?_
    rintro e w3 ⟨rfl, hB3⟩
    have HB3 := Lib.hid (bt HB2.out hB3)
    clear hB3
    go_wp2_with fail
    refine (HTD.out _).mono ?_
    rintro e w4 ⟨⟨v, rfl, hrow⟩, hB4⟩
    have hrow2 : w4.ownsRow W.heap.size 57 1 v 32 (u16s (gots c.data.toList)) := by
      obtain ⟨a, b⟩ := hrow
      refine ⟨a, b.imp id (fun ⟨g, cp, cur, e, h0, r⟩ => ⟨g, cp, cur, e, Nat.le_trans HB3.out.size h0, r⟩)⟩
    have HR := Lib.hid hrow2
    have HB4 := Lib.hid (bt HB3.out hB4)
    clear hB4 hrow hrow2
    go_wp2_with fail
    go_ret2
    exact ⟨v, rfl, by rw [HL.out]; exact HR.out, HB4.out⟩

/-- The bytes of an indirect block. -/
def tellB (zs : List Int) : ByteArray := bs (pby zs ++ zeros (64 - 2 * zs.length))
theorem tellB_size (zs : List Int) (h : zs.length ≤ 32) : (tellB zs).size = 64 := by
  rw [tellB, bs_size, List.length_append, pby_length, zeros_length]
  omega
set_option maxHeartbeats 4000000 in
theorem btell_any {zs : List Int} {v : Value} (h : TJ w0 X p jb N 0 1 40 0 0 (newS N) tb m M false W) (hg : GeoN i b j N) (hx : x.Wf) (hn : x.n ≤ b) (hz : 1 ≤ x.n) (hb : (bsn : Int) = fr i b j 5 + x.n - 1) (hv : SlI .u16 W v zs) (hl : zs.length ≤ 32) (hfit : (pget bsn M).isSome = true ∨ M.length < 37) :
    Calls Tryz.prog 58 #[.pointer (some ⟨tb, 0, none⟩), gv i b j, .agg (ic x), v] W fun e W' => e = .returned (.int .i64 0) ∧ TJ w0 X p jb N 0 1 40 0 0 (newS N) tb m (pins bsn (tellB zs) M) false W' ∧ Kb w0 (fun k => X k ∧ k ≠ m) W W' := by
  unfold gv ic
  have hfr := fr6 i b j
  have hf5 := fr_bd hg.m (show 5 ≤ 6 by decide)
  have hbN : bsn < N := by have := hg.n; omega
  have hblk := fun W => block_yes (n := x.n) hg.m hz hn W
  rw [← hb] at hblk
  have hB1 : Below W.heap.size W ((W.alloc (.cells #[.int .i64 i, .int .i64 b, .int .i64 j] 56)).alloc (.cells #[.int .u8 x.k, .int .u16 x.l, .int .u32 x.s, .int .u16 x.d0, .int .u16 x.d1, .int .u16 x.d2, .int .u16 x.d3, .int .u16 x.n] 61)) := bal (bnew _ _) _
  have HH := Lib.hid h
  have HB1 := Lib.hid hB1
  have HBL := Lib.hid hblk
  have HV := Lib.hid hv
  have HL := Lib.hid hl
  have HF := Lib.hid hfit
  have hts := tellB_size zs hl
  have HTS := Lib.hid hts
  have hvk : ∀ W', Below W.heap.size W W' → SlI .u16 W' v zs := fun W' hB => by
    obtain ⟨⟨ao, cap, e, hc⟩, hw⟩ := hv
    refine ⟨⟨ao, cap, e, fun h0 => ?_⟩, hw⟩
    obtain ⟨b, off, e2, hb, hcc⟩ := hc h0
    exact ⟨b, off, e2, Nat.lt_of_lt_of_le hb hB.size, fun j hj => (hB.cell (p := ⟨b, off + j, none⟩) hb).trans (hcc j hj)⟩
  have HVK := Lib.hid hvk
  obtain ⟨ao, cap, rfl⟩ : ∃ ao cap, v = .slice ao zs.length cap := by obtain ⟨⟨ao, cap, e, _⟩, _⟩ := hv; exact ⟨ao, cap, e⟩
  clear h hx hn hz hb hv hl hfit hblk hf5 hfr hB1 hts hvk
  go_enter Tryz.func58, Tryz.ntmps58
  go_wp2_with fail
  obtain ⟨W1, hW1⟩ : ∃ W1, (W.alloc (.cells #[.int .i64 i, .int .i64 b, .int .i64 j] 56)).alloc (.cells #[.int .u8 x.k, .int .u16 x.l, .int .u32 x.s, .int .u16 x.d0, .int .u16 x.d1, .int .u16 x.d2, .int .u16 x.d3, .int .u16 x.n] 61) = W1 := ⟨_, rfl⟩
  rw [hW1] at HB1
  simp only [hW1]
  clear hW1
  refine (HBL.out _).mono ?_
  rintro e w2 ⟨rfl, hB2⟩
  have HB2 := Lib.hid (bt HB1.out hB2)
  clear hB2
  go_wp2_with fail
  refine (tell_any (HVK.out _ HB2.out) HL.out).mono ?_
  rintro e w3 ⟨rfl, hB3⟩
  have HB3 := Lib.hid (bt HB2.out hB3)
  clear hB3
  have hwr := tx_write (HH.out.of HB3.out) bsn hbN (tellB zs) HTS.out (mx := 37) (by unfold IsMost places; decide) (by decide)
  have HWR := Lib.hid hwr
  clear hwr
  unfold tellB at HWR
  go_wp2_with fail
  refine HWR.out.mono ?_
  rintro e w4 (⟨-, rfl, a, k⟩ | ⟨hno, -⟩)
  · have HA := Lib.hid a
    have HK := Lib.hid k
    clear a k
    go_wp2_with fail
    go_ret
    exact ⟨rfl, HA.out, Kb.t (Kb.less (HH.out.j.dev.kbelow HB3.out) (fun _ h => h.1)) HK.out⟩
  · exfalso
    rcases HF.out with e | e
    · rw [e] at hno; exact absurd hno.1 (by decide)
    · omega
end
end Go.Proofs.YtjjphcnoegaimaaGreat
