/- lunettelaw04.may, torn. -/
import Derived.Test.YtjjphcnoegaimaaAlive04
import Derived.Test.YtjjphcnoegaimaaJSecs
namespace Go.Proofs.Ytjjphcnoegaimaa
open Go.RowKit Go.Shelf Go.Maps
set_option maxRecDepth 20000
set_option linter.unusedVariables false

theorem may_of {N fr n m : Nat} {l : List PutZ} (h : whyZ N fr n m l = 0) (hm : IsMost n m) (ha : fr + n ≤ N) (hN : N ≤ 4096) : ∃ L : Puts, zP L = l ∧ MayP N fr n L := by
  unfold whyZ at h
  split at h
  · omega
  · rename_i h1
    split at h
    · omega
    · rename_i h2
      split at h
      · omega
      · rename_i h3
        have hb : ∀ x ∈ l, 0 ≤ x.1 ∧ x.1 < N ∧ x.2.size = 64 := by
          intro x hx
          have : ¬ badZ N x := fun e => h1 ⟨x, hx, e⟩
          unfold badZ at this
          exact ⟨by omega, by omega, Decidable.of_not_not (fun e => this (.inr (.inr e)))⟩
        have hi : ∀ x ∈ l, ¬ inZ fr n x := fun x hx e => h2 ⟨x, hx, e⟩
        refine ⟨l.map fun x => (x.1.toNat, x.2), ?_, ha, hN, ?_, ?_⟩
        · rw [zP, List.map_map]
          conv => rhs; rw [← List.map_id l]
          refine List.map_congr_left (fun x hx => ?_)
          have := hb x hx
          show (((x.1.toNat : Nat) : Int), x.2) = x
          rw [show ((x.1.toNat : Nat) : Int) = x.1 by omega]
        · rw [List.length_map]
          have := hm.1
          have := places_mono (a := l.length) (b := m) (by omega)
          omega
        · intro y hy
          obtain ⟨x, hx, rfl⟩ := List.mem_map.1 hy
          have := hb x hx
          have := hi x hx
          unfold inZ at this
          dsimp only
          exact ⟨by omega, by omega, by omega⟩

section
variable {w0 w W W' W1 : World} {X : Nat → Prop} {p jb N B fr n g r : Nat} {s : DS}
set_option maxHeartbeats 4000000 in
theorem may_any {va vb : Value} {a b : List PutZ} (ha : SlP w0 X W va a) (hb : SlP w0 X W vb b) : Calls Try.prog 28 #[va, vb] W fun e W' => ∃ c, e = .returned (.bool c) ∧ (c = true → Brief a ∧ Brief b ∧ whyZ 80 1 40 37 a = 0 ∧ whyZ 80 1 40 37 b = 0) ∧ W = W' := by
  have hla := long04_any ha
  have hlb := long04_any hb
  have hwa := fun (h : Brief a) => rwhy_any (N := 80) (fr := 1) a ha most_40 (by decide) (by decide) (by decide) (by have := h.1; omega) (fun x hx => by have := h.2 x hx; omega)
  have hwb := fun (h : Brief b) => rwhy_any (N := 80) (fr := 1) b hb most_40 (by decide) (by decide) (by decide) (by have := h.1; omega) (fun x hx => by have := h.2 x hx; omega)
  obtain ⟨ca, hca⟩ : ∃ c, whyZ 80 1 40 37 a = c := ⟨_, rfl⟩
  obtain ⟨cb, hcb⟩ : ∃ c, whyZ 80 1 40 37 b = c := ⟨_, rfl⟩
  rw [hca] at hwa
  rw [hcb] at hwb
  have HCA := Lib.hid hca
  have HCB := Lib.hid hcb
  have HLA := Lib.hid hla
  have HLB := Lib.hid hlb
  have HWA := Lib.hid hwa
  have HWB := Lib.hid hwb
  clear hla hlb hwa hwb hca hcb ha hb
  go_enter Try.func28, Try.ntmps28
  go_wp2_with fail
  refine HLA.out.mono ?_
  rintro e w1 ⟨b1, rfl, hb1, rfl⟩
  cases b1
  · have HA := Lib.hid (hb1 rfl)
    clear hb1
    go_wp2_with fail
    refine HLB.out.mono ?_
    rintro e w1 ⟨b2, rfl, hb2, rfl⟩
    cases b2
    · have HB := Lib.hid (hb2 rfl)
      clear hb2
      go_wp2_with fail
      refine (HWA.out HA.out).mono ?_
      rintro e w1 ⟨rfl, rfl⟩
      by_cases h1 : ca = 0
      · have e1 : (ca == 0) = true := by simpa using h1
        have H1 := Lib.hid h1
        clear h1
        go_wp2_with fail
        refine (HWB.out HB.out).mono ?_
        rintro e w1 ⟨rfl, rfl⟩
        by_cases h2 : cb = 0
        · have e2 : (cb == 0) = true := by simpa using h2
          have H2 := Lib.hid h2
          clear h2
          go_wp2_with fail
          go_ret
          exact ⟨_, rfl, (fun _ => ⟨HA.out, HB.out, HCA.out.trans H1.out, HCB.out.trans H2.out⟩), rfl⟩
        · have e2 : (cb == 0) = false := by simpa using h2
          clear h2
          go_wp2_with fail
          go_ret
          exact ⟨_, rfl, (fun h => (by simp at h)), rfl⟩
      · have e1 : (ca == 0) = false := by simpa using h1
        clear h1
        go_wp2_with fail
        go_ret
        exact ⟨_, rfl, (fun h => (by simp at h)), rfl⟩
    · go_wp2_with fail
      go_ret
      exact ⟨_, rfl, (fun h => (by simp at h)), rfl⟩
  · go_wp2_with fail
    go_ret
    exact ⟨_, rfl, (fun h => (by simp at h)), rfl⟩

/-- A commit, whatever comes of it. -/
theorem commit_tear {v : Value} (l : Puts) (h : JS w0 X p jb N B fr n g r s W) (hl : SlP w0 X W v (zP l)) {m : Nat} (hm : IsMost n m) (mp : MayP N fr n l) (hn : n ≤ 256) (hg : g + 1 < 18446744073709551616) (hB : B + 600 ≤ 90000) :
    Calls Try.prog 37 #[.pointer (some ⟨jb, 0, none⟩), v] W fun e W' => ∃ (c d : Int) (g' : Nat), e = .returned (.tuple #[.int .u64 c, .int .i64 d]) ∧ JS w0 X p jb N (B + 600) fr n g' r (runO s (commitO fr (g + 1) l)).1 W' ∧ Kb w0 (fun k => X k ∧ k ≠ jb) W W' := by
  have hwc := mp.wc hn (g + 1)
  refine (commit_any l h hl hm mp hg (by omega)).mono ?_
  rintro e W' (⟨_, rfl, a, b⟩ | ⟨_, rfl, a, b⟩)
  · exact ⟨_, _, _, rfl, a.mono (by omega), b⟩
  · exact ⟨_, _, _, rfl, a.mono (by omega), b⟩
theorem secL_congr {f f' : Nat → ByteArray} {fr n N : Nat} (h : ∀ i, i < N → f i = f' i) : secL f fr n N = secL f' fr n N := by
  unfold secL
  refine List.map_congr_left (fun i hi => ?_)
  rw [h i (List.mem_range.1 hi)]
theorem Clean.fuse {s : DS} {h : Nat → ByteArray} (c : Clean s h) (k : Int) : Clean (fuseS s k) h := fun i hi => c i hi
/-- A device, torn. -/
structure TnPost (w0 W : World) (l : Puts) (va vb : Value) (W' : World) (Y : Nat → Prop) (h h' : Nat → ByteArray) (s' : DS) : Prop where
  dev : DvO w0 Y (W.heap.size + 1) s' W'
  ok : Okd 80 1200 s'
  clean : Clean s' h'
  dead : s'.dead = false
  armed : s'.armed = false
  head : readB (h 1) = (1, 0)
  j : JA 80 1 40 h h' ∨ JB 80 1 40 2 l h h' ∨ JC 80 1 40 2 l h h'
  was : TxAt W' va (secL h 1 40 80) Y
  then_ : TxAt W' vb (laidL (secL h 1 40 80) l) Y
theorem LdI.at {W wr : World} {L : List ByteArray} {g cap : Nat} (h : LdI W L g cap wr) : TxAt wr (.slice (some ⟨g, 0, none⟩) L.length cap) L (fun k => W.heap.size ≤ k ∧ k < wr.heap.size) :=
  ⟨_, _, rfl, fun hp => ⟨g, rfl, ⟨h.ge, ownsRow_lt h.row rfl⟩, ownsRow_lt h.row rfl, fun j hj => ownsRow_cell h.row rfl (by simp [sv, List.getD_eq_getElem?_getD, hj])⟩⟩
set_option maxHeartbeats 8000000 in
theorem torn_any {va vl : Value} {keep : ByteArray} (a l : Puts) (hB : Below w0.heap.size w0 W) (ha : SlP w0 (fun _ => False) W va (zP a)) (hl : SlP w0 (fun _ => False) W vl (zP l)) (ma : MayP 80 1 40 a) (ml : MayP 80 1 40 l) (f : Int) (hf : 0 ≤ f) (hf2 : f ≤ 1000) :
    Calls Try.prog 30 #[va, vl, .int .i64 f, .string keep] W fun e W' => ∃ v1 v2 Y h h' s', e = .returned (.tuple #[.pointer (some ⟨W.heap.size + 1, 0, none⟩), v1, v2, .bool true]) ∧ TnPost w0 W l v1 v2 W' Y h h' s' := by
  have hnew := o_new 80 (by decide) (by decide) w0 W hB
  have hlz := zP_length l
  have hla : l.length ≤ 4096 := by have := ml.fit; omega
  have HA := Lib.hid ha
  have HL := Lib.hid hl
  have HMA := Lib.hid ma
  have HML := Lib.hid ml
  have HNW := Lib.hid hnew
  have HB0 := Lib.hid hB
  clear ha hl ma ml hnew hlz hB
  go_enter Try.func30, Try.ntmps30
  go_wp2_with fail
  refine HNW.out.mono ?_
  rintro e w1 ⟨rfl, h0, hB1⟩
  replace h0 := h0.less (Y := fun _ => False) (fun _ => False.elim)
  have ha1 := Lib.hid (HA.out.kb (Kb.of_below hB1 (fun k hk => by rcases hk with hk | hk; exact Nat.lt_of_lt_of_le hk HB0.out.size; exact hk.elim)))
  have hl1 := Lib.hid (HL.out.kb (Kb.of_below hB1 (fun k hk => by rcases hk with hk | hk; exact Nat.lt_of_lt_of_le hk HB0.out.size; exact hk.elim)))
  go_wp2_with fail
  refine (open_JL (fr := 1) (n := 40) h0 (newS_ok 80) (newS_JL 80 1) (by decide) (by decide) (by decide) (by decide) most_40).mono ?_
  rintro e w2 ⟨rfl, h1, k1⟩
  have ha2 := (ha1.out.kb k1).less (Y := fun k => False ∨ k = w1.heap.size) (fun _ h => .inl h)
  have hl2 := Lib.hid (hl1.out.kb k1)
  have hcm := commit_JL a h1 (newS_JL 80 1) ha2 most_40 HMA.out (by decide) (by decide) (by decide)
  have HCM := Lib.hid hcm
  clear h0 h1 k1 ha2 hcm
  go_wp2_with fail
  refine HCM.out.mono ?_
  rintro e w3 ⟨s3, f3, rfl, h3, j3, -, k3⟩
  have hl3 := Lib.hid (hl2.out.kb (k3.less (fun _ h => h.elim)))
  have hsc := sectors_any (fr := 1) (n := 40) h3.dev j3.hard (by decide) j3.dead (by decide) (by decide)
  rw [secL_congr (f' := f3) (fun i hi => j3.newest hi)] at hsc
  have HSC := Lib.hid hsc
  have H3 := Lib.hid h3
  have HJ3 := Lib.hid j3
  clear hsc h3 j3 k3
  go_wp2_with fail
  refine HSC.out.mono ?_
  rintro e w4 ⟨v1, rfl, ht⟩
  have h4 := H3.out.take ht.below
  have hwas : Hid (TxAt w4 v1 (secL f3 1 40 80) (fun k => w3.heap.size ≤ k ∧ k < w4.heap.size)) := Lib.hid (ht.at.weak (fun k h1 h2 => ⟨h1, h2⟩))
  have hl4 := Lib.hid (hl3.out.kb (Kb.of_below ht.below (fun k hk => by rcases hk with hk | hk; exact Nat.lt_of_lt_of_le hk H3.out.dev.below.size; exact hk.elim)))
  have H4 := Lib.hid h4
  have HS3 : Hid (w1.heap.size < w3.heap.size) := Lib.hid (blk_lt H3.out.obj)
  clear ht h4
  go_wp2_with fail
  refine (js_fuse H4.out f hf hf2).mono ?_
  rintro e w5 ⟨rfl, h5, k5⟩
  have HL5 := Lib.hid (hl4.out.kb (k5.less (fun _ h => h.elim)))
  have hl5 := HL5.out.less (Y := fun k => (False ∨ k = w1.heap.size) ∨ w3.heap.size ≤ k ∧ k < w4.heap.size) (fun _ h => h.elim)
  have hct := commit_tear l h5 hl5 most_40 HML.out (by decide) (by decide) (by decide)
  have HCT := Lib.hid hct
  have HK5 := Lib.hid k5
  clear h5 k5 hl5 hct
  go_wp2_with fail
  refine HCT.out.mono ?_
  rintro e w6 ⟨c6, d6, g6, rfl, h6, k6⟩
  have H6 := Lib.hid h6
  have HK6 := Lib.hid k6
  clear h6 k6
  go_wp2_with fail
  refine (js_crash H6.out (by decide) keep).mono ?_
  rintro e w7 ⟨rfl, h7, k7⟩
  have hkk : Kb w0 (fun k => ((False ∨ k = w1.heap.size) ∨ w3.heap.size ≤ k ∧ k < w4.heap.size) ∧ k ≠ w1.heap.size) w4 w7 := (HK5.out.less (fun _ h => h.1)).t (HK6.out.t (k7.less (fun _ h => h.1)))
  have hw7 : TxAt w7 v1 (secL f3 1 40 80) (fun k => w3.heap.size ≤ k ∧ k < w4.heap.size) := hwas.out.keep (fun k h1 h2 => hkk k (.inr ⟨.inr h1, by have := HS3.out; omega⟩))
  have hk57 : Kb w0 (fun _ => False) w5 w7 := (HK6.out.less (Y := fun _ => False) (fun _ h => h.elim)).t (k7.less (Y := fun _ => False) (fun _ h => h.elim))
  have hl7 := HL5.out.kb hk57
  have hld := laid_any l hw7 (by rw [secL_length]; decide) (by rw [secL_length]; decide) hl7 (fun k hk => by rcases hk with hk | hk; exact Nat.lt_of_lt_of_le hk h7.dev.below.size; exact hk.elim) hla (fun x hx => by rw [secL_length]; exact (HML.out.put x hx).1)
  have HLD := Lib.hid hld
  have HW7 := Lib.hid hw7
  have H7 := Lib.hid h7
  clear hkk hw7 hl7 hk57 hld h7 k7
  go_wp2_with fail
  refine HLD.out.mono ?_
  rintro e w8 ⟨g, cap, rfl, hL8⟩
  obtain ⟨h', hcl, hj⟩ := commit_torn (g := 2) HML.out (s := fuseS s3 f) (h := f3) HJ3.out.hard (HJ3.out.clean.fuse f) keep
  have hdv := (H7.out.dev.less (Y := fun k => w3.heap.size ≤ k ∧ k < w4.heap.size) (fun _ h => .inr h)).take hL8.below
  have hpost : TnPost w0 W l v1 (.slice (some ⟨g, 0, none⟩) (secL f3 1 40 80).length cap) w8 (fun k => (w3.heap.size ≤ k ∧ k < w4.heap.size) ∨ w7.heap.size ≤ k ∧ k < w8.heap.size) f3 h' (crashS keep (runO (fuseS s3 f) (commitO 1 2 l)).1) := by
    refine ⟨hdv, H7.out.ok, hcl, rfl, rfl, HJ3.out.head, hj, ?_, ?_⟩
    · exact (HW7.out.keep (fun k h1 h2 => hL8.below.block k h2)).weak (fun k h1 h2 => .inl h1)
    · have := hL8.at
      rw [laidL_length] at this
      exact this.weak (fun k h1 h2 => .inr h1)
  have HP := Lib.hid hpost
  clear hL8 hdv hpost hj hcl
  go_wp2_with fail
  exact bodyPost_ret (v := .tuple #[.pointer (some ⟨W.heap.size + 1, 0, none⟩), v1, .slice (some ⟨g, 0, none⟩) (secL f3 1 40 80).length cap, .bool true]) (by simp [results, Try.results30, go_sem]) rfl ⟨_, _, _, _, _, _, rfl, HP.out⟩
end
end Go.Proofs.Ytjjphcnoegaimaa
