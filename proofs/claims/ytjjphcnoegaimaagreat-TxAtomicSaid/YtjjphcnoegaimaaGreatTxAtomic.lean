/- lunettelaw08.TxAtomic: the walk. -/
import Derived.Test.YtjjphcnoegaimaaGreatTxAtom1
namespace Go.Proofs.YtjjphcnoegaimaaGreat
open Go.RowKit Go.Shelf Go.Maps
set_option maxRecDepth 20000
set_option linter.unusedVariables false

def S40 : List ByteArray := allL (fun _ => zsec) 40
/-- Both transactions have written the same. -/
structure AtI (w : World) (p jb tb m rb R0 R1 : Nat) (v1 : Value) (wr : World) : Prop where
  ex : ∃ (M : Wl) (X : Nat → Prop), TJ w X p jb 40 0 4 12 0 0 (newS 40) tb m M false wr ∧ RtX wr rb v1 M 10 false X ∧ (∀ k, R0 ≤ k → k < R1 → X k) ∧ InW M ∧ M.length ≤ 10 ∧ TxAt wr v1 S40 (fun k => R0 ≤ k ∧ k < rb)
structure AtN (w : World) (jb tb m rb R0 R1 : Nat) : Prop where
  j : jb < R0
  t : tb < R0
  m : m < R0
  r : R0 ≤ rb ∧ rb < R1
  w : w.heap.size ≤ R0
section
variable {w : World} {p jb tb m rb R0 R1 : Nat} {v1 : Value} {wr wr' : World}
theorem AtI.of (h : AtI w p jb tb m rb R0 R1 v1 wr) (hB : Below wr.heap.size wr wr') : AtI w p jb tb m rb R0 R1 v1 wr' := by
  obtain ⟨M, X, h1, h2, h3, h4, h5, h6⟩ := h.ex
  have hl := h1.j.dev.lt
  exact ⟨M, X, h1.of hB, h2.keep (fun k hk => hB.block k (by
    rcases hk with rfl | ⟨_, cur, hk⟩
    · obtain ⟨v, a, _⟩ := h2.obj; exact blk_lt a
    · exact blk_lt hk)) (fun _ h => h), h3, h4, h5, h6.keep (fun k _ h => hB.block k h)⟩

/-- One write of both. -/
theorem at_write {ao : Option Addr} {cap : Nat} (h : AtI w p jb tb m rb R0 R1 (.slice ao 40 cap) wr) (hn : AtN w jb tb m rb R0 R1) (n : Nat) (h1 : 16 ≤ n) (h2 : n < 40) (b : ByteArray) (hb : b.size = 64) :
    Calls Tryz.prog 15 #[.pointer (some ⟨tb, 0, none⟩), .int .i64 n, .string b] wr fun e W1 => ∃ c : Int, e = .returned (.int .i64 c) ∧ Calls Tryz.prog 16 #[.pointer (some ⟨rb, 0, none⟩), .int .i64 n, .string b] W1 fun e W2 => (∃ c : Int, e = .returned (.int .i64 c)) ∧ AtI w p jb tb m rb R0 R1 (.slice ao 40 cap) W2 := by
  obtain ⟨M, X, hT, hR, hX, hIn, hl, hA⟩ := h.ex
  have second : ∀ (W1 : World), TJ w X p jb 40 0 4 12 0 0 (newS 40) tb m (rput n b M 10) false W1 → RtX W1 rb (.slice ao 40 cap) M 10 false X → TxAt W1 (.slice ao 40 cap) S40 (fun k => R0 ≤ k ∧ k < rb) →
      Calls Tryz.prog 16 #[.pointer (some ⟨rb, 0, none⟩), .int .i64 n, .string b] W1 fun e W2 => (∃ c : Int, e = .returned (.int .i64 c)) ∧ AtI w p jb tb m rb R0 R1 (.slice ao 40 cap) W2 := by
    intro W1 hT1 hR1 hA1
    refine (rwrite_any hR1 rfl hl (by decide) n h2 (by decide) b hb).mono ?_
    rintro e W2 ⟨rfl, hp⟩
    have nr : rb ≠ jb ∧ rb ≠ tb ∧ rb ≠ m := by have := hn.j; have := hn.t; have := hn.m; have := hn.r; omega
    refine ⟨⟨_, rfl⟩, _, _, hT1.fr1 (hX rb hn.r.1 hn.r.2) (Nat.le_trans hn.w hn.r.1) nr.1 nr.2.1 nr.2.2 hp.fr, hp.rt, fun k a c => .inl (hX k a c), hIn.rput h1 h2 hb 10, rput_length hR.up hl, hA1.keep (fun k a c => hp.fr.block k c (fun e => by omega))⟩
  refine (tx_write hT n h2 b hb most_12 (by decide)).mono ?_
  rintro e W1 (⟨hc, rfl, a, bk⟩ | ⟨hc, rfl, a, bk⟩)
  · have hm : rput n b M 10 = pins n b M := if_pos hc
    have hkk : ∀ k, X k → k ≠ m → W1.heap[k]? = wr.heap[k]? := fun k x y => bk k (.inr ⟨x, y⟩)
    have hmk : ∀ k, (∃ cur t, wr.heap[k]? = some (.cells cur t (0, 0))) → k ≠ m := fun k e1 e2 => by
      subst e2
      obtain ⟨L, ⟨es, c, hb, _⟩, _⟩ := hT.t.map
      obtain ⟨cur, t, e1⟩ := e1
      rw [hb] at e1
      cases e1
    refine ⟨_, rfl, second W1 (by rw [hm]; exact a) (hR.keep (fun k hk => ?_) (fun _ h => h)) (hA.keep (fun k hk _ => hkk k (hX k hk.1 (by have := hn.r; omega)) (by have := hn.m; omega)))⟩
    rcases hk with hk | ⟨hk, cur, hk2⟩
    · rw [hk]; exact hkk rb (hX rb hn.r.1 hn.r.2) (by have := hn.m; have := hn.r; omega)
    · exact hkk k hk (hmk k ⟨_, _, hk2⟩)
  · have hm : rput n b M 10 = M := if_neg (by rw [hc.1]; simp; omega)
    refine ⟨_, rfl, second W1 (by rw [hm]; exact a) (hR.keep (fun k hk => bk.block k ?_) (fun _ h => h)) (hA.keep (fun k _ h => bk.block k h))⟩
    rcases hk with rfl | ⟨hk, cur, hk2⟩
    · obtain ⟨v, a, _⟩ := hR.obj; exact blk_lt a
    · exact blk_lt hk2

set_option maxHeartbeats 16000000 in
theorem txatomic_walk {w : World} (v : Value) (ls : List St3) (f : Int) (keep : ByteArray) (hl : Sl3 w v ls) (hf : (Lit.int .u8 f).wf = true) (hk : keep.size ≤ 140737488351232) :
    Calls Tryz.prog 3 #[v, .int .u8 f, .string keep] w fun e w' => e = .returned (.bool true) ∧ Below w.heap.size w w' := by
  have hn2 : 0 ≤ f ∧ f ≤ 255 := by simpa [Lit.wf, IntKind.min, IntKind.max, IntKind.signed, IntKind.bits] using hf
  obtain ⟨f, rfl⟩ := Int.eq_ofNat_of_zero_le hn2.1
  have hf3 : f ≤ 255 := by omega
  clear hn2 hf
  have hlong := long8_any hl
  have HLG := Lib.hid hlong
  have HWF := Lib.hid hl.wf
  obtain ⟨⟨ao, cap, rfl, hcell⟩, -⟩ := hl
  have HC := Lib.hid hcell
  have hmade := made_any (w0 := w) (W := w) 40 (by decide) (by decide) (Below.refl _ _)
  have HMD := Lib.hid hmade
  clear hcell hmade hlong
  go_enter Tryz.func3, Tryz.ntmps3
  go_wp2_with fail
  refine HLG.out.mono ?_
  rintro e w1 ⟨c, rfl, hc, rfl⟩
  cases c
  · by_cases hk3 : 1000 < keep.size
    · have e3 : decide ((keep.size : Int) > 1000) = true := decide_eq_true (by omega)
      clear hc
      go_wp2_with fail
      refine (alive08_any _).mono ?_
      rintro e w1 ⟨rfl, hB⟩
      go_wp2_with fail
      go_ret
      exact ⟨rfl, hB⟩
    · have e3 : decide ((keep.size : Int) > 1000) = false := decide_eq_false (by omega)
      have hlen := hc rfl
      clear hc hk3
      go_wp2_with fail
      refine HMD.out.mono ?_
      rintro e w1 ⟨p, jb, rfl, h1⟩
      have HJ1 := Lib.hid h1.j
      clear h1
      go_wp2_with fail
      refine (HJ1.out.begin).mono ?_
      rintro e w2 ⟨rfl, h2, hB2⟩
      have HT2 := Lib.hid h2
      clear h2 hB2
      have hsc := sectors8_any HT2.out.j.dev HT2.out.j.ok.hard (by decide) rfl
      rw [allL_congr (f' := fun _ => zsec) (fun i hi => (newS_JL 40 4).newest hi)] at hsc
      have HSC := Lib.hid hsc
      clear hsc
      go_wp2_with fail
      refine HSC.out.mono ?_
      rintro e w3 ⟨v1, rfl, ht3⟩
      have HT3 := Lib.hid (HT2.out.take ht3.below)
      have HA3 := Lib.hid ht3.at
      have HS3 : Hid (w2.heap.size ≤ w3.heap.size) := Lib.hid ht3.below.size
      clear ht3
      go_wp2_with fail
      refine (jmax_any HT3.out.j most_12 (by decide)).mono ?_
      rintro e w4 ⟨rfl, rfl⟩
      obtain ⟨ao1, cap1, rfl, -⟩ : ∃ ao cap, v1 = .slice ao 40 cap ∧ True := by obtain ⟨ao, cap, e, _⟩ := HA3.out; exact ⟨ao, cap, e, trivial⟩
      go_wp2_with fail
      have hI0 : AtI w p jb (w1.heap.size + 1) w1.heap.size w3.heap.size w2.heap.size (w3.heap.size + 1) (.slice ao1 40 cap1) (w3.alloc (.cells #[.slice ao1 40 cap1, .slice none 0 0, .int .i64 10, .bool false] 39)) := by
        refine ⟨[], _, HT3.out.take (bnew _ _), ⟨⟨.slice none 0 0, hp_new _ _ rfl, World.ownsRow_nil _ _ _ _, fun k e => by cases e⟩, List.Pairwise.nil⟩, fun k h1 h2 => ?_, (fun x hx => by cases hx), by decide, ?_⟩
        · by_cases e : k < w3.heap.size
          · exact .inl (.inr ⟨h1, e⟩)
          · exact .inr ⟨by omega, by simpa using h2⟩
        · exact (HA3.out.weak (Z := fun k => w2.heap.size ≤ k ∧ k < w3.heap.size) (fun k h1 h2 => ⟨h1, h2⟩)).keep (fun k _ h => hp_old _ _ h)
      have hN0 : AtN w jb (w1.heap.size + 1) w1.heap.size w3.heap.size w2.heap.size (w3.heap.size + 1) := by
        have a1 := blk_lt HT2.out.t.obj
        have a2 := HT2.out.t.mlt
        have a3 := blk_lt HT2.out.j.obj
        have a4 := HT2.out.j.dev.below.size
        exact ⟨a3, a1, a2, ⟨HS3.out, by omega⟩, a4⟩
      have HI0 := Lib.hid hI0
      have HN := Lib.hid hN0
      clear hI0 hN0 HT3 HT2 HJ1 HSC
      obtain ⟨tb, htb⟩ : ∃ tb, w1.heap.size + 1 = tb := ⟨_, rfl⟩
      obtain ⟨m, hmb⟩ : ∃ m, w1.heap.size = m := ⟨_, rfl⟩
      obtain ⟨rb, hrb⟩ : ∃ rb, w3.heap.size = rb := ⟨_, rfl⟩
      obtain ⟨R1, hR1⟩ : ∃ R1, rb + 1 = R1 := ⟨_, rfl⟩
      obtain ⟨R0, hR0⟩ : ∃ R0, w2.heap.size = R0 := ⟨_, rfl⟩
      rw [htb, hmb, hrb, hR0, hR1] at HI0 HN
      simp only [htb, hrb]
      clear htb hmb HS3 HA3
      go_loopw [13, 14, 15] (fun v13 _ _ wr => ∃ k : Nat, k ≤ ls.length ∧ v13 = .int .i64 k ∧ AtI w p jb tb m rb R0 R1 (.slice ao1 40 cap1) wr) (fun v13 _ _ _ => ls.length - (intOf v13).toNat)
      case atStart => exact ⟨0, Nat.zero_le _, rfl, HI0.out⟩
      case round =>
        obtain ⟨k, hk1, rfl, hI⟩ := hrel
        by_cases hlt : k < ls.length
        · obtain ⟨b, off, rfl, hb, hcc⟩ := HC.out (by omega)
          obtain ⟨c0, c1, c2, c3, c4⟩ := hcc k hlt
          have hwf := HWF.out (ls.getD k st0) (by rw [List.getD_eq_getElem?_getD, List.getElem?_eq_getElem hlt]; exact List.getElem_mem hlt)
          generalize ls.getD k st0 = x at *
          have hbw : Below w.heap.size w wr := by obtain ⟨M, X, h1, -⟩ := hI.ex; exact h1.j.dev.below
          have d1 := (hbw.cell (p := ⟨b, off + k * 5 + 1, none⟩) hb).trans c1
          have d3 := (hbw.cell (p := ⟨b, off + k * 5 + 3, none⟩) hb).trans c3
          have htx := fun w => text8_any x.s hwf.2.2.2 w
          have hsz : (fullB x.s).size = 64 := fullB_size _
          generalize fullB x.s = dat at *
          obtain ⟨u, hu⟩ : ∃ u : Nat, IntKind.u64.wrap x.i = (u : Int) := ⟨(IntKind.u64.wrap x.i).toNat, by rw [IntKind.wrap_u64]; omega⟩
          have hu2 : u < 18446744073709551616 := by rw [IntKind.wrap_u64] at hu; omega
          obtain ⟨q, hq⟩ : ∃ q : Nat, u % 24 = q := ⟨_, rfl⟩
          have hq1 : (u : Int) % 24 = (q : Int) := by omega
          have hq2 : q < 24 := by omega
          obtain ⟨nn, hnn⟩ : ∃ nn, 16 + q = nn := ⟨_, rfl⟩
          have hw2 : IntKind.i64.wrap (16 + (q : Int)) = ((nn : Nat) : Int) := by rw [i64_sm (by omega) (by omega)]; omega
          have HTX := Lib.hid htx
          have HSZ := Lib.hid hsz
          have HI := Lib.hid hI
          have HNN : Hid (16 ≤ nn ∧ nn < 40) := Lib.hid ⟨by omega, by omega⟩
          clear htx hsz hI hbw hcc c0 c1 c2 c3 c4 hwf hq hnn
          go_wp2_with fail
          refine (HTX.out _).mono ?_
          rintro e wa ⟨rfl, hBa⟩
          have hwr := at_write (HI.out.of hBa) HN.out nn HNN.out.1 HNN.out.2 dat HSZ.out
          have HWR := Lib.hid hwr
          clear hBa hwr
          go_wp2_with fail
          refine HWR.out.mono ?_
          rintro e wb ⟨cc, rfl, hrw⟩
          have HRW := Lib.hid hrw
          clear hrw
          go_wp2_with fail
          refine HRW.out.mono ?_
          rintro e wc ⟨⟨dd, rfl⟩, hI'⟩
          have HI2 := Lib.hid hI'
          clear hI'
          go_wp2_with fail
          go_roundw
          case rel => exact ⟨k + 1, by omega, by go_num, HI2.out⟩
          case measure => simp [intOf]; omega
        · obtain rfl : k = ls.length := by omega
          obtain ⟨M, X, hT, hR, hX, hIn, hl10, hA⟩ := hI
          obtain ⟨l, rfl, mp⟩ := hIn.puts hl10
          have HT := Lib.hid hT
          have HR := Lib.hid hR
          have HX := Lib.hid hX
          have HA := Lib.hid hA
          have HMP := Lib.hid mp
          have hsc := sectors8_any hT.j.dev hT.j.ok.hard (by decide) rfl
          rw [allL_congr (f' := fun _ => zsec) (fun i hi => (newS_JL 40 4).newest hi)] at hsc
          have HSC := Lib.hid hsc
          clear hT hR hX hIn hl10 hA mp hsc
          go_wp2_with fail
          refine HSC.out.mono ?_
          rintro e w5 ⟨v5, rfl, ht5⟩
          have HT5 := Lib.hid (HT.out.of ht5.below)
          have HR5 := Lib.hid (HR.out.keep (fun k hk => ht5.below.block k (by
            rcases hk with rfl | ⟨_, cur, hk⟩
            · obtain ⟨v, a, _⟩ := HR.out.obj; exact blk_lt a
            · exact blk_lt hk)) (fun _ h => h))
          have HA5 := Lib.hid (HA.out.keep (fun k _ h => ht5.below.block k h))
          have ho := outside8_yes HA5.out ht5.at (by rw [S40, allL_length]) (by rw [S40, allL_length]; decide) (fun i hi _ => by rfl)
          have HO := Lib.hid ho
          clear ht5 ho
          go_wp2_with fail
          refine HO.out.mono ?_
          rintro e w6 ⟨rfl, hB6⟩
          have HT6 := Lib.hid (HT5.out.of hB6)
          have HR6 := Lib.hid (HR5.out.keep (fun k hk => hB6.block k (by
            rcases hk with rfl | ⟨_, cur, hk⟩
            · obtain ⟨v, a, _⟩ := HR5.out.obj; exact blk_lt a
            · exact blk_lt hk)) (fun _ h => h))
          have HA6 := Lib.hid (HA5.out.keep (fun k _ h => hB6.block k h))
          clear hB6
          have hrc := rcommit_any l HR6.out.a HA6.out (by rw [S40, allL_length]; decide) (by rw [S40, allL_length]; decide) (by have := HMP.out.fit; omega) (fun x hx => by rw [S40, allL_length]; exact (HMP.out.put x hx).1)
          have HRC := Lib.hid hrc
          clear hrc
          go_wp2_with fail
          refine HRC.out.mono ?_
          rintro e w7 ⟨g7, cap7, rfl, hr7, hg7, hf7⟩
          have nrb : rb ≠ jb ∧ rb ≠ tb ∧ rb ≠ m := by have := HN.out.j; have := HN.out.t; have := HN.out.m; have := HN.out.r; omega
          have hT7 := HT6.out.fr1 (HX.out rb HN.out.r.1 HN.out.r.2) (Nat.le_trans HN.out.w HN.out.r.1) nrb.1 nrb.2.1 nrb.2.2 hf7
          have hW7 : TxAt w7 (.slice (some ⟨g7, 0, none⟩) 40 cap7) (laidL S40 l) (fun k => w6.heap.size ≤ k ∧ k < w7.heap.size) := by
            have hll : (laidL S40 l).length = 40 := by rw [laidL_length, S40, allL_length]
            rw [hll] at hr7
            exact ⟨_, _, by rw [hll], fun _ => ⟨g7, rfl, ⟨hg7, ownsRow_lt hr7 rfl⟩, ownsRow_lt hr7 rfl, fun j hj => ownsRow_cell hr7 rfl (by simp [sv, List.getD_eq_getElem?_getD, hj])⟩⟩
          have HA7 := Lib.hid (HA6.out.keep (W' := w7) (fun k hk h => hf7.block k h (by omega)))
          have HW7 := Lib.hid hW7
          have HT7 := Lib.hid hT7
          have HS67 : Hid (R0 ≤ w6.heap.size ∧ tb < w6.heap.size ∧ jb < w6.heap.size ∧ rb < w6.heap.size) := Lib.hid (by
            obtain ⟨v, a, _⟩ := HR6.out.obj
            have := blk_lt a
            have := HN.out.r; have := HN.out.t; have := HN.out.j
            omega)
          obtain ⟨ff, hff⟩ : ∃ ff : Nat, (f : Int) % 60 = (ff : Int) := ⟨f % 60, by push_cast; rfl⟩
          have hff2 : ff < 60 := by omega
          have hw9 : IntKind.i64.wrap (f : Int) = (f : Int) := i64_sm (by omega) (by omega)
          have hfu := js_fuse HT7.out.j (ff : Int) (by omega) (by omega)
          have HFU := Lib.hid hfu
          clear hr7 hg7 hf7 hT7 hW7 hfu
          rw [S40, allL_length] at *
          go_wp2_with fail
          refine HFU.out.mono ?_
          rintro e w8 ⟨rfl, h8, k8⟩
          have HT8 := Lib.hid (HT7.out.dev h8 k8)
          have HK8 := Lib.hid k8
          have hcm := commit8 HT8.out HMP.out (by decide)
          have HCM := Lib.hid hcm
          clear h8 k8 hcm
          go_wp2_with fail
          refine HCM.out.mono ?_
          rintro e w9 ⟨c9, d9, s9, g9, rfl, h9, k9, hcase⟩
          have HT9 := Lib.hid h9
          have HK9 := Lib.hid k9
          have HCS := Lib.hid hcase
          have hcr := js_crash h9.j (by decide) keep
          have HCR := Lib.hid hcr
          clear h9 k9 hcase hcr
          go_wp2_with fail
          refine HCR.out.mono ?_
          rintro e w10 ⟨rfl, h10, k10⟩
          have HJ10 := Lib.hid h10
          have HK10 := Lib.hid k10
          clear h10 k10
          -- both rows stand
          have hrows : ∀ (w11 : World), Kb w (fun k => X k ∨ w6.heap.size ≤ k ∧ k < w7.heap.size) w10 w11 → TxAt w11 (.slice ao1 40 cap1) S40 (fun k => R0 ≤ k ∧ k < rb) ∧ TxAt w11 (.slice (some ⟨g7, 0, none⟩) 40 cap7) (laidL S40 l) (fun k => w6.heap.size ≤ k ∧ k < w7.heap.size) := by
            intro w11 k11
            have hall : ∀ k, (X k ∨ w6.heap.size ≤ k ∧ k < w7.heap.size) → k ≠ tb → k ≠ jb → w11.heap[k]? = w7.heap[k]? := fun k a b c =>
              (k11 k (.inr a)).trans ((HK10.out k (.inr a)).trans ((HK9.out k (.inr ⟨a, b, c⟩)).trans (HK8.out k (.inr a))))
            have := HS67.out
            have := HN.out.j; have := HN.out.t; have := HN.out.r
            exact ⟨HA7.out.keep (fun k hk _ => hall k (.inl (HX.out k hk.1 (by omega))) (by omega) (by omega)), HW7.out.keep (fun k hk _ => hall k (.inr hk) (by omega) (by omega))⟩
          have HRW := Lib.hid hrows
          clear hrows
          have hlaid : ∀ (h2 : Nat → ByteArray), (∀ i, Out 40 4 12 i → h2 i = laid (fun _ => zsec) l i) → ∀ i, i < (allL h2 40).length → ¬ (4 ≤ i ∧ i < 16) → (allL h2 40).getD i ByteArray.empty = (laidL S40 l).getD i ByteArray.empty := by
            intro h2 e i hi hn
            rw [allL_length] at hi
            rw [allL_get _ _ _ hi, e i ⟨hi, by omega⟩]
            rw [laidL_get l S40 (fun _ => zsec) (fun x hx => by rw [S40, allL_length]; exact (HMP.out.put x hx).1) i (by rw [S40, allL_length]; exact hi) (by rw [S40, allL_get _ _ _ hi]) (fun j hj => by rw [S40, allL_length] at hj; rw [S40, allL_get _ _ _ hj])]
          have hzero : ∀ (h2 : Nat → ByteArray), (∀ i, Out 40 4 12 i → h2 i = zsec) → ∀ i, i < (allL h2 40).length → ¬ (4 ≤ i ∧ i < 16) → (allL h2 40).getD i ByteArray.empty = S40.getD i ByteArray.empty := by
            intro h2 e i hi hn
            rw [allL_length] at hi
            rw [allL_get _ _ _ hi, e i ⟨hi, by omega⟩, S40, allL_get _ _ _ hi]
          have HLD := Lib.hid hlaid
          have HZR := Lib.hid hzero
          have hl40 : ∀ h2, (allL h2 40).length = (laidL S40 l).length := fun h2 => by rw [allL_length, laidL_length, S40, allL_length]
          have hz40 : ∀ h2, (allL h2 40).length = S40.length := fun h2 => by rw [allL_length, S40, allL_length]
          have HL40 := Lib.hid hl40
          have HZ40 := Lib.hid hz40
          clear hlaid hzero hl40 hz40
          rcases HCS.out with ⟨rfl, h', hc1, hc2, hc3⟩ | ⟨rfl, hs9⟩
          · have hop := open8_ok HJ10.out hc1 hc2 (by decide)
            have HOP := Lib.hid hop
            have HC3 := Lib.hid hc3
            clear hop hc1 hc2 hc3
            go_wp2_with fail
            refine HOP.out.mono ?_
            rintro e w11 ⟨j2, s2, rfl, ho⟩
            have HOO := Lib.hid ho
            obtain ⟨r1, r2⟩ := HRW.out w11 ho.kb
            have R1' := Lib.hid r1
            have R2' := Lib.hid r2
            have hsc2 := sectors8_any ho.dev ho.hard (by decide) ho.dead
            rw [allL_congr (f' := h') (fun i hi => ho.new i hi)] at hsc2
            have HSC2 := Lib.hid hsc2
            clear ho r1 r2 hsc2
            go_wp2_with fail
            refine HSC2.out.mono ?_
            rintro e w12 ⟨v12, rfl, ht12⟩
            have hout := outside8_yes ht12.at (R2'.out.keep (fun k _ h => ht12.below.block k h)) (HL40.out _) (by rw [allL_length]; decide) (HLD.out _ HC3.out)
            have HOU := Lib.hid hout
            have HD12 := Lib.hid (HOO.out.dev.of ht12.below)
            clear hout ht12
            go_wp2_with fail
            refine HOU.out.mono ?_
            rintro e w13 ⟨rfl, hB13⟩
            have HD13 := Lib.hid (HD12.out.of hB13)
            clear hB13
            go_wp2_with fail
            refine (alive08_any _).mono ?_
            rintro e w14 ⟨rfl, hB14⟩
            have HB14 := Lib.hid (bt HD13.out.below hB14)
            clear hB14
            go_wp2_with fail
            go_ret
            exact ⟨rfl, HB14.out⟩
          · have hj10 := HJ10.out
            rw [hs9] at hj10
            have hop := open8_torn hj10 HMP.out (by decide)
            have HOP := Lib.hid hop
            clear hop hj10
            go_wp2_with fail
            refine HOP.out.mono ?_
            rintro e w11 ⟨j2, s2, h2, rfl, ho, hcs2⟩
            have HC2 := Lib.hid hcs2
            have HOO := Lib.hid ho
            obtain ⟨r1, r2⟩ := HRW.out w11 ho.kb
            have R1' := Lib.hid r1
            have R2' := Lib.hid r2
            have hsc2 := sectors8_any ho.dev ho.hard (by decide) ho.dead
            rw [allL_congr (f' := h2) (fun i hi => ho.new i hi)] at hsc2
            have HSC2 := Lib.hid hsc2
            clear ho r1 r2 hsc2 hcs2
            go_wp2_with fail
            refine HSC2.out.mono ?_
            rintro e w12 ⟨v12, rfl, ht12⟩
            have r1 := R1'.out.keep (fun k _ h => ht12.below.block k h)
            have r2 := R2'.out.keep (fun k _ h => ht12.below.block k h)
            have HR1 := Lib.hid r1
            have HD12 := Lib.hid (HOO.out.dev.of ht12.below)
            have HV12 := Lib.hid ht12.at
            rcases HC2.out with hcz | hcl
            · have hout := outside8_any ht12.at r2 (HL40.out _) (by rw [allL_length]; decide)
              have HOU := Lib.hid hout
              have HCZ := Lib.hid hcz
              clear hout ht12 r1 r2 hcz
              go_wp2_with fail
              refine HOU.out.mono ?_
              rintro e w13 ⟨c13, rfl, hB13⟩
              have HD13 := Lib.hid (HD12.out.of hB13)
              have hout2 := outside8_yes (HV12.out.keep (fun k _ h => hB13.block k h)) (HR1.out.keep (fun k _ h => hB13.block k h)) (HZ40.out _) (by rw [allL_length]; decide) (HZR.out _ HCZ.out)
              have HO2 := Lib.hid hout2
              clear hB13 hout2
              cases c13
              · go_wp2_with fail
                refine HO2.out.mono ?_
                rintro e w14 ⟨rfl, hB14⟩
                have HD14 := Lib.hid (HD13.out.of hB14)
                clear hB14
                go_wp2_with fail
                refine (alive08_any _).mono ?_
                rintro e w15 ⟨rfl, hB15⟩
                have HB15 := Lib.hid (bt HD14.out.below hB15)
                clear hB15
                go_wp2_with fail
                go_ret
                exact ⟨rfl, HB15.out⟩
              · go_wp2_with fail
                refine (alive08_any _).mono ?_
                rintro e w15 ⟨rfl, hB15⟩
                have HB15 := Lib.hid (bt HD13.out.below hB15)
                clear hB15
                go_wp2_with fail
                go_ret
                exact ⟨rfl, HB15.out⟩
            · have hout := outside8_yes ht12.at r2 (HL40.out _) (by rw [allL_length]; decide) (HLD.out _ hcl)
              have HOU := Lib.hid hout
              clear hout ht12 r1 r2 hcl
              go_wp2_with fail
              refine HOU.out.mono ?_
              rintro e w13 ⟨rfl, hB13⟩
              have HD13 := Lib.hid (HD12.out.of hB13)
              clear hB13
              go_wp2_with fail
              refine (alive08_any _).mono ?_
              rintro e w15 ⟨rfl, hB15⟩
              have HB15 := Lib.hid (bt HD13.out.below hB15)
              clear hB15
              go_wp2_with fail
              go_ret
              exact ⟨rfl, HB15.out⟩
  · clear hc
    go_wp2_with fail
    refine (alive08_any _).mono ?_
    rintro e w1 ⟨rfl, hB⟩
    go_wp2_with fail
    go_ret
    exact ⟨rfl, hB⟩
end
end Go.Proofs.YtjjphcnoegaimaaGreat
