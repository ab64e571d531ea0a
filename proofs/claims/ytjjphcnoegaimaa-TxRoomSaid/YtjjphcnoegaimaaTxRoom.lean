/- lunettelaw08.TxRoom: the walk. -/
import Derived.Test.YtjjphcnoegaimaaAlive08
import Derived.Test.YtjjphcnoegaimaaTouch
import Derived.Test.YtjjphcnoegaimaaSlice
namespace Go.Proofs.Ytjjphcnoegaimaa
open Go.RowKit Go.Shelf Go.Maps
set_option maxRecDepth 20000
set_option linter.unusedVariables false

/-- A count of what was written. -/
def SeenM (S : List (Int × Value)) (M : Wl) (q : Int) : Prop := (S.map Prod.fst).Nodup ∧ Rising M ∧ ∀ k, (mget k S = none ∧ pget k M = none) ∨ (∃ c : Int, 1 ≤ c ∧ c ≤ q ∧ mget k S = some (.int .i64 c) ∧ (pget k M).isSome = true)
theorem SeenM.length {S : List (Int × Value)} {M : Wl} {q : Int} (h : SeenM S M q) : S.length = M.length := by
  have hp : (S.map Prod.fst).Perm (M.map Prod.fst) := by
    refine (List.perm_ext_iff_of_nodup h.1 (h.2.1.keys.imp (fun h e => by omega))).2 (fun k => ?_)
    have e2 : k ∈ S.map Prod.fst ↔ ¬ mget k S = none := by rw [mget_none]; simp
    have e3 : k ∈ M.map Prod.fst ↔ ¬ pget k M = none := by rw [pget_none]; simp
    rw [e2, e3]
    rcases h.2.2 k with ⟨a, b⟩ | ⟨c, _, _, a, b⟩
    · rw [a, b]; simp
    · rw [a]
      cases hg : pget k M with
      | none => rw [hg] at b; cases b
      | some x => simp
  simpa using hp.length_eq
theorem SeenM.mono {S : List (Int × Value)} {M : Wl} {q q' : Int} (h : SeenM S M q) (hq : q ≤ q') : SeenM S M q' := ⟨h.1, h.2.1, fun k => (h.2.2 k).imp id (fun ⟨c, a, b, d⟩ => ⟨c, a, by omega, d⟩)⟩
/-- What is counted of a sector. -/
theorem SeenM.at {S : List (Int × Value)} {M : Wl} {q : Int} (h : SeenM S M q) (hq : 0 ≤ q) (k : Int) : ∃ c : Int, 0 ≤ c ∧ c ≤ q ∧ (mget k S).getD (.int .i64 0) = .int .i64 c ∧ (0 < c ↔ (pget k M).isSome = true) := by
  rcases h.2.2 k with ⟨a, b⟩ | ⟨c, h1, h2, a, b⟩
  · exact ⟨0, by omega, hq, by rw [a]; rfl, by rw [b]; simp⟩
  · exact ⟨c, by omega, h2, by rw [a]; rfl, by rw [b]; simp; omega⟩
theorem SeenM.put {S : List (Int × Value)} {M : Wl} {q : Int} (h : SeenM S M q) (k : Int) (b : ByteArray) (c : Int) (hc : 0 ≤ c) (hcq : c ≤ q) : SeenM (mput k (.int .i64 (c + 1)) S) (pins k b M) (q + 1) := by
  refine ⟨mput_nodup h.1, pins_rising k b h.2.1, fun j => ?_⟩
  rw [mget_put, pins_get]
  by_cases e : j = k
  · rw [if_pos e, if_pos e]
    exact .inr ⟨c + 1, by omega, by omega, rfl, rfl⟩
  · rw [if_neg e, if_neg e]
    exact (h.mono (by omega : q ≤ q + 1)).2.2 j

section
variable {w0 w W W' : World} {X : Nat → Prop} {p jb N B fr n g r tb m : Nat} {s : DS} {M : Wl} {dn : Bool}
theorem TJ.grown (h : TJ w0 X p jb N B fr n g r s tb m M dn W) {b : Nat} (hb : X b) (hw : w0.heap.size ≤ b) (h1 : b ≠ jb) (h2 : b ≠ tb) (h3 : b ≠ m) (hg : W.grownBy W' (some b)) : TJ w0 X p jb N B fr n g r s tb m M dn W' :=
  ⟨h.j.grown hb hw h1 hg, h.t.keep (hg.block tb (blk_lt h.t.obj) (fun e => h2 (Option.some.inj e).symm)) (hg.block m h.t.mlt (fun e => h3 (Option.some.inj e).symm)), h.xt, h.xm, h.gt, h.gm⟩
/-- A transaction and a count beside it. -/
structure RmI (w0 : World) (X : Nat → Prop) (p jb tb m ms : Nat) (k : Nat) (W : World) : Prop where
  ex : ∃ (M : Wl) (S : List (Int × Value)), TJ w0 X p jb 60 0 4 12 0 0 (newS 60) tb m M false W ∧ MapS W ms .i64 S ∧ SeenM S M k ∧ M.length ≤ 10
  xs : X ms
  gs : w0.heap.size ≤ ms
  ne : ms ≠ jb ∧ ms ≠ tb ∧ ms ≠ m
theorem zero_int (w : World) : (zeroValue 3).run Try.prog w = .ok (.int .i64 0) w := by kernel_rfl

set_option maxHeartbeats 8000000 in
theorem room_walk {w : World} (v : Value) (zs : List Int) (hl : SlI .u8 w v zs) : Calls Try.prog 11 #[v] w fun e w' => e = .returned (.bool true) ∧ Below w.heap.size w w' := by
  obtain ⟨⟨ao, cap, rfl, hcell⟩, hwf⟩ := hl
  have HC := Lib.hid hcell
  have HW := Lib.hid hwf
  clear hcell hwf
  have hmade := made_any (w0 := w) (W := w) 60 (by decide) (by decide) (Below.refl _ _)
  have HMD := Lib.hid hmade
  have hfa := fun w => full_any ⟨#[97]⟩ (by unfold maxLen; decide) w
  have hsa : (fullB ⟨#[97]⟩).size = 64 := fullB_size _
  generalize fullB ⟨#[97]⟩ = a at *
  have HFA := Lib.hid hfa
  have HSA := Lib.hid hsa
  have hmm := @run_makeMap Try.prog
  clear hmade hfa hsa
  by_cases hlen : zs.length ≤ 100
  · have e1 : decide ((zs.length : Int) > 100) = false := decide_eq_false (by omega)
    have HLEN := Lib.hid hlen
    go_enter Try.func11, Try.ntmps11
    go_wp2_with fail
    refine HMD.out.mono ?_
    rintro e w1 ⟨p, jb, rfl, h1⟩
    have HJ1 := Lib.hid h1.j
    clear h1
    go_wp2_with fail
    refine (HJ1.out.begin).mono ?_
    rintro e w2 ⟨rfl, h2, hB2⟩
    have HT2 := Lib.hid h2
    clear h2 hB2
    have hroom := tx_room HT2.out most_12 (by decide) (by decide)
    have HR := Lib.hid hroom
    clear hroom
    go_wp2_with fail
    refine HR.out.mono ?_
    rintro e w3 ⟨rfl, hB3⟩
    have HT3 := Lib.hid (HT2.out.of hB3)
    clear hB3
    go_wp2_with fail
    refine (jmax_any HT3.out.j most_12 (by decide)).mono ?_
    rintro e w4 ⟨rfl, rfl⟩
    go_wp2_with fail
    have hI0 : RmI w (fun k => (((w.heap.size ≤ k ∧ k < w.heap.size) ∨ k = jb) ∨ w1.heap.size ≤ k ∧ k < w2.heap.size) ∨ w3.heap.size ≤ k ∧ k < (w3.alloc (.map #[] 0)).heap.size) p jb (w1.heap.size + 1) w1.heap.size w3.heap.size 0 (w3.alloc (.map #[] 0)) := by
      have hs := HT3.out.t.mlt
      have ht := blk_lt HT3.out.t.obj
      have hj := blk_lt HT3.out.j.obj
      exact ⟨⟨[], [], HT3.out.take (bnew _ _), MapS.new _ _, ⟨List.nodup_nil, List.Pairwise.nil, fun k => .inl ⟨rfl, rfl⟩⟩, by decide⟩, .inr ⟨Nat.le_refl _, by simp⟩, HT3.out.j.dev.below.size, by omega, by omega, by omega⟩
    have HI0 := Lib.hid hI0
    clear hI0
    generalize (fun k => (((w.heap.size ≤ k ∧ k < w.heap.size) ∨ k = jb) ∨ w1.heap.size ≤ k ∧ k < w2.heap.size) ∨ w3.heap.size ≤ k ∧ k < (w3.alloc (.map #[] 0)).heap.size) = X at *
    obtain ⟨tb, htb⟩ : ∃ tb, w1.heap.size + 1 = tb := ⟨_, rfl⟩
    obtain ⟨m, hmb⟩ : ∃ m, w1.heap.size = m := ⟨_, rfl⟩
    obtain ⟨ms, hms⟩ : ∃ ms, w3.heap.size = ms := ⟨_, rfl⟩
    rw [htb, hmb, hms] at HI0
    simp only [htb, hms]
    clear htb hmb HT3 HT2 HJ1 HR
    go_loopw [8, 9, 10, 11] (fun v8 _ _ _ wr => ∃ k : Nat, k ≤ zs.length ∧ v8 = .int .i64 k ∧ RmI w X p jb tb m ms k wr) (fun v8 _ _ _ _ => zs.length - (intOf v8).toNat)
    case atStart => exact ⟨0, Nat.zero_le _, rfl, HI0.out⟩
    case round =>
      obtain ⟨k, hk, rfl, hI⟩ := hrel
      by_cases hlt : k < zs.length
      · obtain ⟨⟨M, S, hT, hS, hM, hl10⟩, hxs, hgs, hne⟩ := hI
        obtain ⟨b, off, rfl, hb, hc⟩ := HC.out (by omega)
        have d1 := (hT.j.dev.below.cell (p := ⟨b, off + k, none⟩) hb).trans (hc k hlt)
        have hz := HW.out (zs.getD k 0) (by rw [List.getD_eq_getElem?_getD, List.getElem?_eq_getElem hlt]; exact List.getElem_mem hlt)
        generalize zs.getD k 0 = z at *
        have hz2 : 0 ≤ z ∧ z ≤ 255 := by simpa [Lit.wf, IntKind.min, IntKind.max, IntKind.signed, IntKind.bits] using hz
        obtain ⟨z, rfl⟩ := Int.eq_ofNat_of_zero_le hz2.1
        have hz3 : z ≤ 255 := by omega
        obtain ⟨q, hq⟩ : ∃ q : Nat, z % 44 = q := ⟨_, rfl⟩
        have hq1 : (z : Int) % 44 = (q : Int) := by omega
        have hq2 : q < 44 := by omega
        have hw1 : IntKind.i64.wrap (z : Int) = (z : Int) := i64_sm (by omega) (by omega)
        have hw2 : IntKind.i64.wrap (16 + (q : Int)) = ((16 + q : Nat) : Int) := by rw [i64_sm (by omega) (by omega)]; push_cast; rfl
        obtain ⟨nn, hnn⟩ : ∃ nn, 16 + q = nn := ⟨_, rfl⟩
        rw [hnn] at hw2
        have hn60 : nn < 60 := by omega
        have hroom := tx_room hT most_12 (by decide) hl10
        have HR := Lib.hid hroom
        have HT := Lib.hid hT
        have HS := Lib.hid hS
        have HM := Lib.hid hM
        have HL := Lib.hid hl10
        have HXS := Lib.hid hxs
        have HGS := Lib.hid hgs
        have HNE := Lib.hid hne
        clear hroom hT hS hM hxs hgs hne hz hz2 hc hq hnn
        go_wp2_with fail
        refine HR.out.mono ?_
        rintro e w4 ⟨rfl, hB4⟩
        have HT4 := Lib.hid (HT.out.of hB4)
        have HS4 := Lib.hid (HS.out.of_block (hB4.block ms HS.out.lt))
        clear hB4
        go_wp2_with fail
        refine (HFA.out _).mono ?_
        rintro e w5 ⟨rfl, hB5⟩
        have hwr := tx_write (HT4.out.of hB5) nn hn60 a HSA.out most_12 (by decide)
        have HWR := Lib.hid hwr
        have HS5 := Lib.hid (HS4.out.of_block (hB5.block ms HS4.out.lt))
        clear hB5 hwr
        obtain ⟨c, hc0, hck, hcg, hci⟩ := HM.out.at (by omega) (nn : Int)
        go_wp2_with fail
        refine HWR.out.mono ?_
        rintro e w6 (⟨hcase, rfl, h6, hk6⟩ | ⟨hcase, rfl, h6, hB6⟩)
        · have hms6 := HS5.out.of_block (hk6 ms (.inr ⟨HXS.out, HNE.out.2.2⟩))
          have hlk := hms6.mapAt.look (t := 85) Try.underlying85 Try.underlying3 (zero_int w6) (nn : Int)
          rw [hcg] at hlk
          obtain ⟨W7, hr7, hS7, hg7⟩ := hms6.put (t := 85) Try.underlying85 Try.underlying3 (nn : Int) (by simp [Lit.wf, IntKind.min, IntKind.signed, IntKind.bits]; omega) (.int .i64 (c + 1))
          have hT7 := h6.grown HXS.out HGS.out HNE.out.1 HNE.out.2.1 HNE.out.2.2 hg7
          have hM7 := HM.out.put (nn : Int) a c hc0 hck
          have hl7 : (pins (nn : Int) a M).length ≤ 10 := by
            rw [pins_length _ _ HM.out.2.1]
            have := HL.out
            rcases hcase with e | e
            · rw [if_pos e]; exact this
            · split <;> omega
          obtain ⟨n7, hn7⟩ : ∃ n7, (pins (nn : Int) a M).length = n7 := ⟨_, rfl⟩
          have hr8 := tx_room hT7 most_12 (by decide) hl7
          rw [hn7] at hr8 hl7
          have hln : (mput (nn : Int) (.int .i64 (c + 1)) S).length = n7 := by rw [hM7.length, hn7]
          have HLN := Lib.hid hln
          have HN7 := Lib.hid hn7
          have HR8 := Lib.hid hr8
          have HT7 := Lib.hid hT7
          have HS7 := Lib.hid hS7
          have HI7 : Hid (∀ Wz, TJ w X p jb 60 0 4 12 0 0 (newS 60) tb m (pins (nn : Int) a M) false Wz → MapS Wz ms .i64 (mput (nn : Int) (.int .i64 (c + 1)) S) → RmI w X p jb tb m ms (k + 1) Wz) := Lib.hid (fun Wz x y => ⟨⟨_, _, x, y, by push_cast; exact hM7, by rw [hn7]; exact hl7⟩, HXS.out, HGS.out, HNE.out⟩)
          have hwc : IntKind.i64.wrap (c + 1) = c + 1 := i64_sm (by omega) (by have := HLEN.out; omega)
          have hwd : IntKind.i64.wrap (10 - (n7 : Int)) = 10 - (n7 : Int) := i64_sm (by omega) (by omega)
          have hdis : 0 < c ∨ (c = 0 ∧ M.length < 10) := by
            rcases hcase with e | e
            · exact .inl (hci.2 e)
            · omega
          have hn7' := hl7
          clear hms6 hS7 hg7 hT7 hM7 hcase hci hcg h6 hk6 hr8 hln hn7 hl7
          rcases hdis with hc1 | ⟨rfl, hc1⟩
          · have e5 : decide (c > 0) = true := decide_eq_true hc1
            have hwc' := hwc
            go_wp2_with fail
            refine HR8.out.mono ?_
            rintro e w8 ⟨rfl, hB8⟩
            have HT8 := Lib.hid (HT7.out.of hB8)
            have hS8 := HS7.out.of_block (hB8.block ms HS7.out.lt)
            have hln8 := hS8.len (t := 85) Try.underlying85 3
            rw [HLN.out] at hln8
            have HS8 := Lib.hid hS8
            have htc := tx_touched HT8.out.t (by rw [HN7.out]; omega)
            rw [HN7.out] at htc
            have HTC := Lib.hid htc
            clear hB8 hS8 htc
            go_wp2_with fail
            refine (jmax_any HT8.out.j most_12 (by decide)).mono ?_
            rintro e w9 ⟨rfl, rfl⟩
            go_wp2_with fail
            refine HTC.out.mono ?_
            rintro e w10 ⟨vt, rfl, hrt, hB10⟩
            have hS10 := HS8.out.of_block (hB10.block ms HS8.out.lt)
            have hln10 := hS10.len (t := 85) Try.underlying85 3
            rw [HLN.out] at hln10
            obtain ⟨ao', cp', rfl⟩ : ∃ ao cp, vt = .slice ao n7 cp := by
              rcases hrt.2 with ⟨rfl, h0⟩ | ⟨g, cap, cur, rfl, _⟩
              · exact ⟨_, _, by rw [h0]⟩
              · exact ⟨_, _, rfl⟩
            have HI10 := Lib.hid (HI7.out w10 (HT8.out.of hB10) hS10)
            clear hrt hB10 hS10
            go_wp2_with fail
            go_roundw
            case rel => exact ⟨k + 1, by omega, by go_num, HI10.out⟩
            case measure => simp [intOf]; omega
          · have e5 : decide ((10 : Int) - (M.length : Int) > 0) = true := decide_eq_true (by omega)
            simp only [Int.zero_add] at hr7
            go_wp2_with fail
            refine HR8.out.mono ?_
            rintro e w8 ⟨rfl, hB8⟩
            have HT8 := Lib.hid (HT7.out.of hB8)
            have hS8 := HS7.out.of_block (hB8.block ms HS7.out.lt)
            have hln8 := hS8.len (t := 85) Try.underlying85 3
            rw [HLN.out] at hln8
            have HS8 := Lib.hid hS8
            have htc := tx_touched HT8.out.t (by rw [HN7.out]; omega)
            rw [HN7.out] at htc
            have HTC := Lib.hid htc
            clear hB8 hS8 htc
            go_wp2_with fail
            refine (jmax_any HT8.out.j most_12 (by decide)).mono ?_
            rintro e w9 ⟨rfl, rfl⟩
            go_wp2_with fail
            refine HTC.out.mono ?_
            rintro e w10 ⟨vt, rfl, hrt, hB10⟩
            have hS10 := HS8.out.of_block (hB10.block ms HS8.out.lt)
            have hln10 := hS10.len (t := 85) Try.underlying85 3
            rw [HLN.out] at hln10
            obtain ⟨ao', cp', rfl⟩ : ∃ ao cp, vt = .slice ao n7 cp := by
              rcases hrt.2 with ⟨rfl, h0⟩ | ⟨g, cap, cur, rfl, _⟩
              · exact ⟨_, _, by rw [h0]⟩
              · exact ⟨_, _, rfl⟩
            have HI10 := Lib.hid (HI7.out w10 (HT8.out.of hB10) hS10)
            clear hrt hB10 hS10
            go_wp2_with fail
            go_roundw
            case rel => exact ⟨k + 1, by omega, by go_num, HI10.out⟩
            case measure => simp [intOf]; omega
        · have hms6 := HS5.out.of_block (hB6.block ms HS5.out.lt)
          have hlk := hms6.mapAt.look (t := 85) Try.underlying85 Try.underlying3 (zero_int w6) (nn : Int)
          rw [hcg] at hlk
          obtain rfl : c = 0 := by
            have : ¬ 0 < c := fun e => by rw [hci.1 e] at hcase; exact absurd hcase.1 (by decide)
            omega
          have hML : M.length = 10 := by have := HL.out; omega
          have hr8 := tx_room h6 most_12 (by decide) HL.out
          have hln : S.length = 10 := by rw [HM.out.length, hML]
          obtain ⟨n7, hn7⟩ : ∃ n7 : Nat, n7 = 10 := ⟨_, rfl⟩
          have HLN : Hid (S.length = n7) := Lib.hid (by rw [hn7]; exact hln)
          have HN7 : Hid (M.length = n7) := Lib.hid (by rw [hn7]; exact hML)
          have hMn : M.length = n7 := by omega
          rw [hMn] at hr8
          have HR8 := Lib.hid hr8
          have HT7 := Lib.hid h6
          have HS7 := Lib.hid hms6
          have HI7 : Hid (∀ Wz, TJ w X p jb 60 0 4 12 0 0 (newS 60) tb m M false Wz → MapS Wz ms .i64 S → RmI w X p jb tb m ms (k + 1) Wz) := Lib.hid (fun Wz x y => ⟨⟨_, _, x, y, HM.out.mono (by push_cast; omega), HL.out⟩, HXS.out, HGS.out, HNE.out⟩)
          have hwd : IntKind.i64.wrap (10 - (n7 : Int)) = 10 - (n7 : Int) := i64_sm (by omega) (by omega)
          have hn7' : n7 ≤ 10 := by omega
          have hc1 : ¬ M.length < 10 := by omega
          have e5 : decide ((10 : Int) - (M.length : Int) > 0) = false := decide_eq_false (by omega)
          clear hms6 hcase hci hcg h6 hr8 hln hn7 hML hMn hB6
          go_wp2_with fail
          refine HR8.out.mono ?_
          rintro e w8 ⟨rfl, hB8⟩
          have HT8 := Lib.hid (HT7.out.of hB8)
          have hS8 := HS7.out.of_block (hB8.block ms HS7.out.lt)
          have hln8 := hS8.len (t := 85) Try.underlying85 3
          rw [HLN.out] at hln8
          have HS8 := Lib.hid hS8
          have htc := tx_touched HT8.out.t (by rw [HN7.out]; omega)
          rw [HN7.out] at htc
          have HTC := Lib.hid htc
          clear hB8 hS8 htc
          go_wp2_with fail
          refine (jmax_any HT8.out.j most_12 (by decide)).mono ?_
          rintro e w9 ⟨rfl, rfl⟩
          go_wp2_with fail
          refine HTC.out.mono ?_
          rintro e w10 ⟨vt, rfl, hrt, hB10⟩
          have hS10 := HS8.out.of_block (hB10.block ms HS8.out.lt)
          have hln10 := hS10.len (t := 85) Try.underlying85 3
          rw [HLN.out] at hln10
          obtain ⟨ao', cp', rfl⟩ : ∃ ao cp, vt = .slice ao n7 cp := by
            rcases hrt.2 with ⟨rfl, h0⟩ | ⟨g, cap, cur, rfl, _⟩
            · exact ⟨_, _, by rw [h0]⟩
            · exact ⟨_, _, rfl⟩
          have HI10 := Lib.hid (HI7.out w10 (HT8.out.of hB10) hS10)
          clear hrt hB10 hS10
          go_wp2_with fail
          go_roundw
          case rel => exact ⟨k + 1, by omega, by go_num, HI10.out⟩
          case measure => simp [intOf]; omega
      · obtain rfl : k = zs.length := by omega
        obtain ⟨⟨M, S, hT, hS, hM, hl10⟩, hxs, hgs, hne⟩ := hI
        have HAB := Lib.hid (tx_abort hT)
        clear hT hS hM hl10 hxs hgs hne
        go_wp2_with fail
        refine HAB.out.mono ?_
        rintro e w4 ⟨rfl, h4⟩
        have HT4 := Lib.hid h4
        clear h4
        go_wp2_with fail
        refine (alive08_any _).mono ?_
        rintro e w5 ⟨rfl, hB5⟩
        have HB5 := Lib.hid (bt HT4.out.j.dev.below hB5)
        clear hB5
        go_wp2_with fail
        go_ret
        exact ⟨rfl, HB5.out⟩
  · have e1 : decide ((zs.length : Int) > 100) = true := decide_eq_true (by omega)
    go_enter Try.func11, Try.ntmps11
    go_wp2_with fail
    refine (alive08_any _).mono ?_
    rintro e w1 ⟨rfl, hB⟩
    go_wp2_with fail
    go_ret
    exact ⟨rfl, hB⟩
end
end Go.Proofs.Ytjjphcnoegaimaa
