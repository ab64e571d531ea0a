/- Package journal: kept: the transaction that the area has. Package journal: recover_: what was committed, and is not done, is laid. -/
import Derived.Test.YtjjphcnoegaimaaGreatGK
namespace Go.Proofs.YtjjphcnoegaimaaGreat
open Go.RowKit Go.Shelf Go.Maps
set_option maxRecDepth 20000
set_option linter.unusedVariables false

def pcells (l : Puts) : List Value := l.flatMap fun x => [.int .i64 (x.1 : Int), .string x.2]
theorem pcells_snoc (l : Puts) (x : Nat × ByteArray) : pcells (l ++ [x]) = pcells l ++ [.int .i64 (x.1 : Int), .string x.2] := by simp [pcells]
theorem pcells_at : ∀ (l : Puts) (i : Nat) (h : i < l.length), (pcells l)[i * 2]? = some (.int .i64 (l[i].1 : Int)) ∧ (pcells l)[i * 2 + 1]? = some (.string l[i].2)
  | x :: l, 0, _ => ⟨rfl, rfl⟩
  | x :: l, i + 1, h => by
    have := pcells_at l i (by simpa using h)
    have e : pcells (x :: l) = .int .i64 (x.1 : Int) :: .string x.2 :: pcells l := rfl
    rw [e, show (i + 1) * 2 = i * 2 + 1 + 1 by omega]
    exact this
theorem Tryz.infoPut : (Tryz.prog.info? 111).map (fun i => (i.zero, i.size, i.bytes)) = some (some (.agg #[.int .i64 0, .string ByteArray.empty]), 2, 24) := by kernel_rfl
theorem infoPut : ∃ i0, Tryz.prog.info? 111 = some i0 ∧ i0.zero = some (.agg #[.int .i64 0, .string ByteArray.empty]) ∧ i0.size = 2 ∧ i0.bytes = 24 := by
  have h := Tryz.infoPut
  cases e : Tryz.prog.info? 111 with
  | none => rw [e] at h; cases h
  | some i =>
    rw [e] at h
    simp only [Option.map_some, Option.some.injEq, Prod.mk.injEq] at h
    exact ⟨i, rfl, h.1, h.2.1, h.2.2⟩

section
variable {w0 w W W' W1 : World} {X : Nat → Prop} {p jb N B fr n g r : Nat} {s : DS}
theorem js_readb (h : JS w0 X p jb N B fr n g r s W) (hd : s.dead = false) (i : Nat) (hi : i < N) : Calls Tryz.prog 40 #[.pointer (some ⟨p, 0, none⟩), .int .i64 i] W fun e W' =>
    e = .returned (.tuple #[.string (newest s i), .int .i64 0]) ∧ Below W.heap.size W W' := by
  have hh := h.ok.hard
  obtain ⟨hb, hc, m, L, h1, h2⟩ := h.dev.dev
  exact dev_read h1 hd i (by rw [hh]; exact hi)
/-- What stands in kept's loop. -/
structure KpI2 (W : World) (l : Puts) (v : Value) (wr : World) : Prop where
  row : wr.ownsRow W.heap.size 111 2 v l.length (pcells l)
  below : Below W.heap.size W wr
theorem KpI2.of {l : Puts} {v : Value} {wr w1 : World} (h : KpI2 W l v wr) (hB : Below wr.heap.size wr w1) : KpI2 W l v w1 := by
  refine ⟨?_, bt h.below hB⟩
  obtain ⟨hl, hr⟩ := h.row
  refine ⟨hl, ?_⟩
  rcases hr with h' | ⟨g, cap, cur, rfl, h0, hh, hr⟩
  · exact .inl h'
  · exact .inr ⟨g, cap, cur, rfl, h0, (hB.block g (blk_lt hh)).trans hh, hr⟩
theorem KpI2.step {l : Puts} {v v' : Value} {wr w1 : World} {x : Nat × ByteArray} (h : KpI2 W l v wr) (hown : w1.ownsRow W.heap.size 111 2 v' (l.length + 1) (pcells l ++ [.int .i64 (x.1 : Int), .string x.2])) (hg : wr.grownBy w1 v.ownBlock) : KpI2 W (l ++ [x]) v' w1 := by
  refine ⟨?_, h.below.grown hg h.below.size (fun g e => ?_)⟩
  · rw [pcells_snoc, List.length_append]
    exact hown
  · rcases h.row.2 with ⟨rfl, _⟩ | ⟨g', c, cur, rfl, h0, _⟩
    · cases e
    · cases e; exact h0
theorem KpI2.slp {l : Puts} {v : Value} {wr : World} (h : KpI2 W l v wr) (hw : w0.heap.size ≤ W.heap.size) : SlP w0 (fun k => X k ∨ W.heap.size ≤ k ∧ k < wr.heap.size) wr v (zP l) := by
  obtain ⟨hl, hr⟩ := h.row
  rcases hr with ⟨rfl, h0⟩ | ⟨g, cap, cur, rfl, h0, hh, hnc, hcm, hcs, hct⟩
  · refine ⟨none, 0, by rw [zP_length, h0], fun hp => ?_⟩
    rw [zP_length] at hp
    omega
  · refine ⟨some ⟨g, 0, none⟩, cap, by rw [zP_length], fun hp => ⟨g, 0, rfl, .inr (.inr ⟨h0, blk_lt hh⟩), fun i hi => ?_⟩⟩
    rw [zP_length] at hi
    rw [zP_get l i hi]
    obtain ⟨a, b⟩ := pcells_at l i hi
    have hc := fun j u (hj : (pcells l)[j]? = some u) => ownsRow_cell (ownsRow_base h.row) rfl hj
    exact ⟨by rw [Nat.zero_add]; exact hc _ _ a, by rw [Nat.zero_add]; exact hc _ _ b⟩
theorem places_quiet (m : Nat) (hm : m ≤ 100000) (w : World) : Calls Tryz.prog 114 #[.int .i64 m] w fun e w' => e = .returned (.int .i64 (places m : Nat)) ∧ w' = w := (places_any m hm w).mono (fun _ _ ⟨a, b⟩ => ⟨a, b.symm⟩)
theorem keptP_succ (f : Nat → ByteArray) (fr c k : Nat) (h : k < c) : (keptP f fr c).take (k + 1) = (keptP f fr c).take k ++ [(le (((f (fr + 1 + k / 32)).data.toList.take (2 * (k % 32) + 2)).drop (2 * (k % 32))), f (fr + 1 + places c + k))] := by
  have hl : k < (keptP f fr c).length := by simp [keptP, h]
  rw [List.take_succ_eq_append_getElem hl]
  simp [keptP]

set_option maxHeartbeats 8000000 in
theorem kept_any (h : JS w0 X p jb N B fr n g r s W) (hd : s.dead = false) (c : Nat) (hc : 1 + places c + c ≤ n) (hfr : fr + n ≤ N) (hN : N ≤ 4096) :
    Calls Tryz.prog 86 #[.pointer (some ⟨jb, 0, none⟩), .int .i64 c] W fun e W' => ∃ v, e = .returned (.tuple #[v, .int .i64 0]) ∧ KpI2 W (keptP (newest s) fr c) v W' := by
  have j1 := cl_of h.obj 1
  have HH := Lib.hid h
  have hs1 : IntKind.i64.wrap ((fr : Int) + 1) = (fr : Int) + 1 := i64_sm (by omega) (by omega)
  have hs2 : IntKind.i64.wrap ((fr : Int) + 1 + (places c : Nat)) = (fr : Int) + 1 + (places c : Nat) := i64_sm (by omega) (by omega)
  obtain ⟨i0, ii, hz0, hz1, hz2⟩ := infoPut
  clear h
  go_enter Tryz.func86, Tryz.ntmps86
  go_wp2_with fail
  go_quiet ((go_at_call 114; exact Calls.quiet_of_same (places_quiet c (by omega) _)))
  go_wp2_with fail
  go_loopw [4, 7, 8, 9, 10, 11, 12, 13, 23] (fun v4 _ _ _ _ _ _ _ v23 wr => ∃ k : Nat, k ≤ c ∧ v23 = .int .i64 k ∧ KpI2 W ((keptP (newest s) fr c).take k) v4 wr) (fun _ _ _ _ _ _ _ _ v23 _ => c - (intOf v23).toNat)
  case atStart => exact ⟨0, Nat.zero_le _, rfl, by rw [List.take_zero]; exact ⟨World.ownsRow_nil _ _ _ _, drewn_b (Below.refl _ _) nq⟩⟩
  case round =>
    obtain ⟨k, hk, rfl, hI⟩ := hrel
    by_cases hlt : k < c
    · have hj := HH.out.of hI.below
      have J0 := cl_of hj.obj 0
      have J1 := cl_of hj.obj 1
      have hsn := keptP_succ (newest s) fr c k hlt
      have HSN := Lib.hid hsn
      have HI := Lib.hid hI
      have HJ := Lib.hid hj
      have hp32 : k / 32 < places c := by unfold places; omega
      have hr1 : ∀ (W2 : World), JS w0 X p jb N B fr n g r s W2 → Calls Tryz.prog 40 #[.pointer (some ⟨p, 0, none⟩), .int .i64 ((fr : Int) + 1 + (k : Int) / 32)] W2 fun e W' => e = .returned (.tuple #[.string (newest s (fr + 1 + k / 32)), .int .i64 0]) ∧ Below W2.heap.size W2 W' := fun W2 hj2 => by
        rw [show (fr : Int) + 1 + (k : Int) / 32 = ((fr + 1 + k / 32 : Nat) : Int) by omega]
        exact js_readb hj2 hd (fr + 1 + k / 32) (by omega)
      have hr2 : ∀ (W2 : World), JS w0 X p jb N B fr n g r s W2 → Calls Tryz.prog 40 #[.pointer (some ⟨p, 0, none⟩), .int .i64 ((fr : Int) + 1 + (places c : Nat) + (k : Int))] W2 fun e W' => e = .returned (.tuple #[.string (newest s (fr + 1 + places c + k)), .int .i64 0]) ∧ Below W2.heap.size W2 W' := fun W2 hj2 => by
        rw [show (fr : Int) + 1 + (places c : Nat) + (k : Int) = ((fr + 1 + places c + k : Nat) : Int) by omega]
        exact js_readb hj2 hd (fr + 1 + places c + k) (by omega)
      have ht1 : (k : Int).tdiv 32 = (k : Int) / 32 := Int.tdiv_eq_ediv_of_nonneg (by omega)
      have ht2 : IntKind.i64.wrap ((k : Int) / 32) = (k : Int) / 32 := i64_sm (by omega) (by omega)
      have ht3 : IntKind.i64.wrap ((fr : Int) + 1 + (k : Int) / 32) = (fr : Int) + 1 + (k : Int) / 32 := i64_sm (by omega) (by omega)
      have HR1 := Lib.hid hr1
      have HR2 := Lib.hid hr2
      clear hr1 hr2
      have z1 : (newest s (fr + 1 + k / 32)).size = 64 := HH.out.ok.newest (by omega)
      generalize newest s (fr + 1 + k / 32) = t1 at *
      generalize newest s (fr + 1 + places c + k) = t2 at *
      obtain ⟨q, hq⟩ : ∃ q : Nat, k % 32 = q := ⟨_, rfl⟩
      have hq1 : (k : Int) % 32 = (q : Int) := by omega
      have hq2 : q < 32 := by omega
      rw [hq] at HSN
      have hx : t1.extract (q * 2) (q * 2 + 2) = bs ((t1.data.toList.take (2 * q + 2)).drop (2 * q)) := by
        rw [← bs_of t1, bs_extract, bs_data, Nat.mul_comm q 2]
      have hgt := fun W => get_bs2 ((t1.data.toList.take (2 * q + 2)).drop (2 * q)) (by simp; omega) W
      have hll := le_lt ((t1.data.toList.take (2 * q + 2)).drop (2 * q))
      have h256 : 256 ^ ((t1.data.toList.take (2 * q + 2)).drop (2 * q)).length ≤ 256 ^ 2 := Nat.pow_le_pow_right (by decide) (by simp; omega)
      have hle : le ((t1.data.toList.take (2 * q + 2)).drop (2 * q)) < 65536 := Nat.lt_of_lt_of_le hll h256
      have HG := Lib.hid hgt
      have HLE := Lib.hid hle
      generalize (t1.data.toList.take (2 * q + 2)).drop (2 * q) = tb at *
      generalize le tb = at1 at *
      clear hsn hI hj hgt hll h256 hq
      have hw9 : IntKind.i64.wrap (at1 : Int) = at1 := i64_sm (by omega) (by have := HLE.out; omega)
      clear hle
      go_wp2_with fail
      first | (go_region_held3 (fun W2 => W2.cell? ⟨jb, 0, none⟩ = some (.pointer (some ⟨p, 0, none⟩)) ∧ W2.cell? ⟨jb, 1, none⟩ = some (.int .i64 fr)) (first | exact ⟨J0, J1⟩ | assumption | exact ⟨cl_of (JS.obj (by assumption)) 0, cl_of (JS.obj (by assumption)) 1⟩) (first | (go_at_call 40; ((with_reducible refine (HR1.out _ HJ.out.drew).mono ?_); rintro e w3 ⟨rfl, hB3⟩; have hj3 := HJ.out.drew.of hB3)))) | fail
      first | (rename_i hK; refine hK _ _ ?_; clear hK) | (rename_i hK _; refine hK _ _ ?_; clear hK) | (rename_i hK _ _; refine hK _ _ ?_; clear hK)
      have HJ3 := Lib.hid hj3
      have J3 := cl_of hj3.obj 0
      have HI3 := Lib.hid (HI.out.of (bt (Below.refl wr.heap.size wr).drew hB3))
      clear hj3 hB3 J0 J1 ht1 ht2 ht3
      go_wp2_with fail
      refine (HG.out _).mono ?_
      rintro e w4 ⟨rfl, rfl⟩
      go_wp2_with fail
      refine (HR2.out _ HJ3.out).mono ?_
      rintro e w4 ⟨rfl, hB4⟩
      have hI5 := (HI3.out.of hB4).of (bnew w4 (.cells #[.int .i64 (at1 : Int), .string t2] 111))
      have hLk : ((keptP (newest s) fr c).take k).length = k := by simp [keptP]; omega
      generalize (keptP (newest s) fr c).take k = L at *
      have HI5 := Lib.hid hI5
      have hL3 : L.length + 1 ≤ maxLen := by unfold maxLen; omega
      have hL4 : (L.length + 1) * 24 ≤ 140737488355328 := by omega
      have hone : ∀ u ∈ [Value.int .i64 (at1 : Int), Value.string t2], u.oneCell' = true := by simp [Value.oneCell']
      have hL5 : W.heap.size ≤ (w4.alloc (.cells #[.int .i64 (at1 : Int), .string t2] 111)).heap.size := hI5.below.size
      clear hB4 hI5 hLk
      go_wp2_with (at_builtin; refine wpList_append_own _ rfl _ _ 37 rfl W.heap.size 111 i0 (.agg #[.int .i64 0, .string ByteArray.empty]) 2 24 Tryz.underlying37 ii hz0 hz1 hz2 rfl (by decide) _ L.length (pcells L) rfl HI5.out.row ⟨w4.heap.size, 0, none⟩ 1 1 [.int .i64 (at1 : Int), .string t2] rfl rfl (World.news_of_block (hp_new _ _ rfl)) hone hL3 hL4 hL5 ?_; intro v' w5 hown' hgrow _)
      have HST := Lib.hid (KpI2.step (x := (at1, t2)) HI5.out hown' hgrow)
      clear hown' hgrow
      go_roundw
      case rel => exact ⟨k + 1, by omega, by go_num, by rw [HSN.out]; exact HST.out⟩
      case measure => simp [intOf]; omega
    · obtain rfl : k = c := by omega
      rw [List.take_of_length_le (by simp [keptP])] at hI
      go_wp2_with fail
      go_ret2
      exact ⟨_, rfl, hI⟩
end
end Go.Proofs.YtjjphcnoegaimaaGreat

namespace Go.Proofs.YtjjphcnoegaimaaGreat
open Go.RowKit Go.Shelf Go.Maps
set_option maxRecDepth 20000
set_option linter.unusedVariables false

/-- The steps of a recovery. -/
def recoverS (fr g : Nat) (l : Puts) : List (List DOp) := [layO l, [.fl], [.wr fr (headB g 0)], [.fl]]
theorem recoverS_flat (fr g : Nat) (l : Puts) : (recoverS fr g l).flatten = recoverO fr g l := by simp [recoverS, recoverO]
def recId (k : Nat) : Nat := if k = 0 then 80 else if k = 2 then 81 else 78
def recAd (wb p k : Nat) : Nat := if k = 0 ∨ k = 2 then wb else p
def fnr (wb p k : Nat) : Value := .func (.func (recId k)) #[.pointer (some ⟨recAd wb p k, 0, none⟩)] #[]

section
variable {w0 w W W' W1 : World} {X : Nat → Prop} {p jb N B fr n g r : Nat} {s : DS}
theorem run_recover {wb rb g' cap : Nat} {lv : Value} (l : Puts) (h : JS w0 X p jb N B fr n g r s W) (hw : WO W wb jb g' lv) (hx : X wb) (hl : SlP w0 X W lv (zP l)) (hrb : W.heap[rb]? = some (.cells #[fnr wb p 0, fnr wb p 1, fnr wb p 2, fnr wb p 3] 106 (0, 0))) (hxr : X rb)
    (hpn : ∀ x ∈ l, x.1 < N ∧ x.2.size = 64) (hl64 : l.length < 65536) (hfr : fr < N) (hB : B + wcount (recoverO fr g' l) ≤ 90000) (hg : g' < 18446744073709551616) :
    Calls Tryz.prog 76 #[.slice (some ⟨rb, 0, none⟩) 4 cap] W (RunPost (StK w0 X p jb N B fr n g r s (recoverS fr g' l) W 4) (NoK w0 X p jb N B fr n g r s (recoverS fr g' l) W)) := by
  obtain ⟨ao, lcap, rfl, hval⟩ := hl
  rw [zP_length] at hw
  have hB' : ∀ k, B + wcount (preK (recoverS fr g' l) k) ≤ 90000 := fun k => by
    have := wcount_pre_le (recoverS fr g' l) k
    rw [recoverS_flat] at this
    omega
  have hBs : ∀ k (hk : k < (recoverS fr g' l).length), B + wcount (preK (recoverS fr g' l) k) + wcount (recoverS fr g' l)[k] ≤ 90000 := fun k hk => by
    have := hB' (k + 1)
    rw [preK_succ _ _ hk, wcount_append] at this
    omega
  have hl' : SlP w0 X W (.slice ao l.length lcap) (zP l) := ⟨ao, lcap, by rw [zP_length], hval⟩
  refine run_any rb cap 4 recId (recAd wb p) _ _ (by decide) ?_ ?_ ?_ ⟨h, rfl, Kb.refl _ _ _⟩
  · intro k hk
    have : k = 0 ∨ k = 1 ∨ k = 2 ∨ k = 3 := by omega
    rcases this with rfl | rfl | rfl | rfl <;> simp [recId]
  · intro k W' hk hs
    have hc := fun i => cl_of ((hs.2.2 rb (.inr hxr)).trans hrb) i
    rw [hc k]
    have : k = 0 ∨ k = 1 ∨ k = 2 ∨ k = 3 := by omega
    rcases this with rfl | rfl | rfl | rfl <;> rfl
  · intro k W' hk hs
    have hs' := hs
    obtain ⟨hj, hok, hkb⟩ := hs'
    have hw' : WO W' wb jb g' (.slice ao l.length lcap) := hw.kb hkb hx
    have hl2 := hl'.kb hkb
    have hkl : k < (recoverS fr g' l).length := hk
    have hbs := hBs k hkl
    refine Calls.mono ?_ (fun e W2 hp => step_post hkl hs hp)
    have : k = 0 ∨ k = 1 ∨ k = 2 ∨ k = 3 := by omega
    rcases this with rfl | rfl | rfl | rfl
    · refine lay_any l hj hw' hx hl2 ?_ hpn
      have e : wcount (recoverS fr g' l)[0] = l.length := wcount_lay l
      omega
    · exact flush_post hj (hB' 1)
    · exact done_any hj hw' hx hbs hg hl64 hfr
    · exact flush_post hj (hB' 3)

/-- What run leaves of a recovery. -/
def RvRun (w0 : World) (X : Nat → Prop) (p jb N B fr n g r : Nat) (s : DS) (l : Puts) (g' : Nat) (W : World) (e : Ending) (W' : World) : Prop :=
  ((runO s (recoverO fr g' l)).2 = true ∧ e = .returned (.int .i64 0) ∧ JS w0 X p jb N (B + wcount (recoverO fr g' l)) fr n g r (runO s (recoverO fr g' l)).1 W' ∧ Kb w0 X W W') ∨
  ((runO s (recoverO fr g' l)).2 = false ∧ e = .returned (.int .i64 30) ∧ JS w0 X p jb N (B + wcount (recoverO fr g' l)) fr n g r (runO s (recoverO fr g' l)).1 W' ∧ Kb w0 X W W')
theorem recover_run {lv : Value} (l : Puts) {Y : Nat → Prop} (hY : ∀ k, X k → Y k) (hXj : X jb) {wb g' : Nat} {W2 : World} (h : JS w0 Y p jb N B fr n g r s W2) (hl : SlP w0 Y W2 lv (zP l)) (hpn : ∀ x ∈ l, x.1 < N ∧ x.2.size = 64) (hl64 : l.length < 65536) (hfr : fr < N) (hg : g' < 18446744073709551616) (hB : B + wcount (recoverO fr g' l) ≤ 90000) (hwb : Y wb) (hwo : WO W2 wb jb g' lv) (hkb : Kb w0 X W W2) :
    Calls Tryz.prog 76 #[.slice (some ⟨W2.heap.size, 0, none⟩) 4 4] (W2.alloc (.cells #[.func (.func 80) #[.pointer (some ⟨wb, 0, none⟩)] #[], .func (.func 78) #[.pointer (some ⟨p, 0, none⟩)] #[], .func (.func 81) #[.pointer (some ⟨wb, 0, none⟩)] #[], .func (.func 78) #[.pointer (some ⟨p, 0, none⟩)] #[]] 106)) (RvRun w0 X p jb N B fr n g r s l g' W) := by
  have hB3 := bnew W2 (.cells #[.func (.func 80) #[.pointer (some ⟨wb, 0, none⟩)] #[], .func (.func 78) #[.pointer (some ⟨p, 0, none⟩)] #[], .func (.func 81) #[.pointer (some ⟨wb, 0, none⟩)] #[], .func (.func 78) #[.pointer (some ⟨p, 0, none⟩)] #[]] 106)
  have hj := h.take hB3
  have hsl := (hl.kb (h.kb hB3)).less (Y := fun k => Y k ∨ W2.heap.size ≤ k ∧ k < (W2.alloc (.cells #[.func (.func 80) #[.pointer (some ⟨wb, 0, none⟩)] #[], .func (.func 78) #[.pointer (some ⟨p, 0, none⟩)] #[], .func (.func 81) #[.pointer (some ⟨wb, 0, none⟩)] #[], .func (.func 78) #[.pointer (some ⟨p, 0, none⟩)] #[]] 106)).heap.size) (fun _ h => .inl h)
  refine (run_recover l hj (blk_old hwo _) (.inl hwb) hsl (hp_new W2 _ rfl) (.inr ⟨Nat.le_refl _, by simp⟩) hpn hl64 hfr hB hg).mono ?_
  have hk : ∀ {W'}, Kb w0 (fun k => Y k ∨ W2.heap.size ≤ k ∧ k < (W2.alloc (.cells #[.func (.func 80) #[.pointer (some ⟨wb, 0, none⟩)] #[], .func (.func 78) #[.pointer (some ⟨p, 0, none⟩)] #[], .func (.func 81) #[.pointer (some ⟨wb, 0, none⟩)] #[], .func (.func 78) #[.pointer (some ⟨p, 0, none⟩)] #[]] 106)).heap.size) (W2.alloc (.cells #[.func (.func 80) #[.pointer (some ⟨wb, 0, none⟩)] #[], .func (.func 78) #[.pointer (some ⟨p, 0, none⟩)] #[], .func (.func 81) #[.pointer (some ⟨wb, 0, none⟩)] #[], .func (.func 78) #[.pointer (some ⟨p, 0, none⟩)] #[]] 106)) W' → Kb w0 X W W' := fun c => hkb.t (((h.kb hB3).t (c.less (fun _ h => .inl h))).less hY)
  rintro e W' (⟨rfl, a, b, c⟩ | ⟨rfl, a, b, c⟩)
  · have e8 : preK (recoverS fr g' l) 4 = recoverO fr g' l := recoverS_flat fr g' l
    rw [e8] at a b
    exact .inl ⟨b, rfl, a.less (fun _ h => .inl (hY _ h)) hXj, hk c⟩
  · rw [recoverS_flat] at a b
    exact .inr ⟨b, rfl, a.less (fun _ h => .inl (hY _ h)) hXj, hk c⟩

theorem js_readb_down (h : JS w0 X p jb N B fr n g r s W) (hd : s.dead = true) (i : Int) : Calls Tryz.prog 40 #[.pointer (some ⟨p, 0, none⟩), .int .i64 i] W fun e W' => e = .returned (.tuple #[.string ByteArray.empty, .int .i64 30]) ∧ Below W.heap.size W W' := by
  obtain ⟨hb, hc, m, L, h1, h2⟩ := h.dev.dev
  exact dev_read_down h1 hd i
set_option maxHeartbeats 4000000 in
theorem recover_down (h : JS w0 X p jb N B fr n g r s W) (hd : s.dead = true) (hfr : fr < N) : Calls Tryz.prog 52 #[.pointer (some ⟨jb, 0, none⟩)] W fun e W' => e = .returned (.int .i64 30) ∧ Below W.heap.size W W' := by
  have J0 := cl_of h.obj 0
  have J1 := cl_of h.obj 1
  have HH := Lib.hid h
  clear h
  go_enter Tryz.func52, Tryz.ntmps52
  go_wp2_with fail
  first | (go_region_held3 (fun W2 => W2.cell? ⟨jb, 0, none⟩ = some (.pointer (some ⟨p, 0, none⟩)) ∧ W2.cell? ⟨jb, 1, none⟩ = some (.int .i64 fr)) (first | exact ⟨J0, J1⟩ | assumption | exact ⟨cl_of (JS.obj (by assumption)) 0, cl_of (JS.obj (by assumption)) 1⟩) (first | (go_at_call 40; ((with_reducible refine (js_readb_down HH.out.drew hd _).mono ?_); rintro e w3 ⟨rfl, hB3⟩; have hj3 := HH.out.drew.of hB3)))) | fail
  first | (rename_i hK; refine hK _ _ ?_; clear hK) | (rename_i hK _; refine hK _ _ ?_; clear hK) | (rename_i hK _ _; refine hK _ _ ?_; clear hK)
  have HB3 := Lib.hid (bt (Below.refl W.heap.size W).drew hB3)
  clear hj3 hB3 J0 J1
  go_wp2_with fail
  go_ret
  exact ⟨rfl, HB3.out⟩
/-- What recover_ leaves where there is nothing to lay. -/
def RnPost (w0 : World) (X : Nat → Prop) (p jb N B fr n g r : Nat) (s : DS) (W : World) (e : Ending) (W' : World) : Prop := e = .returned (.int .i64 0) ∧ JS w0 X p jb N B fr n g r s W' ∧ Kb w0 (fun k => X k ∧ k ≠ jb) W W'
set_option maxHeartbeats 4000000 in
theorem recover_none (h : JS w0 X p jb N B fr n g r s W) (hd : s.dead = false) (hfr : fr < N) (hn : n ≤ 4096) {m g1 c1 : Nat} (hm : IsMost n m) (hrd : readB (newest s fr) = (g1, c1)) (hc : c1 = 0 ∨ m < c1) :
    Calls Tryz.prog 52 #[.pointer (some ⟨jb, 0, none⟩)] W (RnPost w0 X p jb N B fr n g1 r s W) := by
  have J0 := cl_of h.obj 0
  have J1 := cl_of h.obj 1
  have HH := Lib.hid h
  have hrx : ∀ W, Calls Tryz.prog 85 #[.string (newest s fr)] W fun e w' => e = .returned (.tuple #[.int .u64 g1, .int .i64 c1]) ∧ Below W.heap.size W w' := fun W => by
    have := jread_any (newest s fr) (HH.out.ok.newest hfr) W
    rw [hrd] at this
    exact this
  have HR := Lib.hid hrx
  have HM := Lib.hid hm
  have hrd1 : ∀ W2, JS w0 X p jb N B fr n g r s W2 → Calls Tryz.prog 40 #[.pointer (some ⟨p, 0, none⟩), .int .i64 fr] W2 fun e W' => e = .returned (.tuple #[.string (newest s fr), .int .i64 0]) ∧ Below W2.heap.size W2 W' := fun W2 h2 => js_readb h2 hd fr hfr
  have HD := Lib.hid hrd1
  generalize newest s fr = b0 at *
  clear h hrx hrd hm hrd1
  go_enter Tryz.func52, Tryz.ntmps52
  go_wp2_with fail
  first | (go_region_held3 (fun W2 => W2.cell? ⟨jb, 0, none⟩ = some (.pointer (some ⟨p, 0, none⟩)) ∧ W2.cell? ⟨jb, 1, none⟩ = some (.int .i64 fr)) (first | exact ⟨J0, J1⟩ | assumption | exact ⟨cl_of (JS.obj (by assumption)) 0, cl_of (JS.obj (by assumption)) 1⟩) (first | (go_at_call 40; ((with_reducible refine (HD.out _ HH.out.drew).mono ?_); rintro e w3 ⟨rfl, hB3⟩; have hj3 := HH.out.drew.of hB3)))) | fail
  first | (rename_i hK; refine hK _ _ ?_; clear hK) | (rename_i hK _; refine hK _ _ ?_; clear hK) | (rename_i hK _ _; refine hK _ _ ?_; clear hK)
  have HB3 := Lib.hid (bt (Below.refl W.heap.size W).drew hB3)
  clear hj3 hB3 J0 J1
  go_wp2_with fail
  refine (HR.out _).mono ?_
  rintro e w4 ⟨rfl, hB4⟩
  have hj4 := HH.out.of (bt HB3.out hB4)
  have q3 := cl_of hj4.obj 3
  have f3 := fz_of hj4.obj 3
  have HJ5 := Lib.hid (hj4.setGen g1)
  have HK5 : Hid (Kb w0 (fun k => X k ∧ k ≠ jb) W (w4.setCell ⟨jb, 3, none⟩ (.int .u64 g1))) := Lib.hid (fun k hk => (kb_set 3 _ k (hk.elim (fun e e' => by have := HH.out.ge; omega) (fun h => h.2))).trans (HH.out.kb (bt HB3.out hB4) k (hk.imp id (fun h => h.1))))
  clear hj4 hB4
  rcases hc with rfl | hc
  · go_wp2_with fail
    go_ret
    exact ⟨rfl, HJ5.out, HK5.out⟩
  · have e0 : ((c1 : Int) == 0) = false := by simp; omega
    have e1 : decide (m < c1) = true := decide_eq_true hc
    go_wp2_with fail
    refine (jmax_any HJ5.out HM.out (by omega)).mono ?_
    rintro e w6 ⟨rfl, rfl⟩
    go_wp2_with fail
    go_ret
    exact ⟨rfl, HJ5.out, HK5.out⟩

/-- What recover_ leaves where it lays. -/
def RcPost (w0 : World) (X : Nat → Prop) (p jb N B fr n g1 c1 : Nat) (s : DS) (l : Puts) (W : World) (e : Ending) (W' : World) : Prop :=
  ((runO s (recoverO fr g1 l)).2 = true ∧ e = .returned (.int .i64 0) ∧ JS w0 X p jb N (B + wcount (recoverO fr g1 l)) fr n g1 c1 (runO s (recoverO fr g1 l)).1 W' ∧ Kb w0 (fun k => X k ∧ k ≠ jb) W W') ∨
  ((runO s (recoverO fr g1 l)).2 = false ∧ e = .returned (.int .i64 30) ∧ JS w0 X p jb N (B + wcount (recoverO fr g1 l)) fr n g1 c1 (runO s (recoverO fr g1 l)).1 W' ∧ Kb w0 (fun k => X k ∧ k ≠ jb) W W')
theorem recover_mid {W5 w6 : World} {ao : Option Addr} {cap g1 c1 : Nat} {l : Puts} (h5 : JS w0 X p jb N B fr n g1 r s W5) (hk5 : Kb w0 (fun k => X k ∧ k ≠ jb) W W5) (hk : KpI2 W5 l (.slice ao l.length cap) w6) (hpn : ∀ x ∈ l, x.1 < N ∧ x.2.size = 64) (hl64 : l.length < 65536) (hfr : fr < N) (hg : g1 < 18446744073709551616) (hB : B + wcount (recoverO fr g1 l) ≤ 90000) {W2 : World}
    (e : W2 = ((w6.alloc (.cells #[.pointer (some ⟨jb, 0, none⟩), .int .u64 g1, .slice ao l.length cap] 158)).setCell ⟨jb, 4, none⟩ (.int .i64 c1)).drew) :
    W2.cell? ⟨jb, 0, none⟩ = some (.pointer (some ⟨p, 0, none⟩)) ∧ Calls Tryz.prog 76 #[.slice (some ⟨W2.heap.size, 0, none⟩) 4 4] (W2.alloc (.cells #[.func (.func 80) #[.pointer (some ⟨w6.heap.size, 0, none⟩)] #[], .func (.func 78) #[.pointer (some ⟨p, 0, none⟩)] #[], .func (.func 81) #[.pointer (some ⟨w6.heap.size, 0, none⟩)] #[], .func (.func 78) #[.pointer (some ⟨p, 0, none⟩)] #[]] 106)) (RcPost w0 X p jb N B fr n g1 c1 s l W) := by
  have hb6 := bal hk.below (.cells #[.pointer (some ⟨jb, 0, none⟩), .int .u64 g1, .slice ao l.length cap] 158)
  have hjlt := blk_lt h5.obj
  have hs6 := hk.below.size
  have h6 := (h5.take hb6)
  have h7 := (h6.setRec c1).drew
  rw [← e] at h7
  have hsl0 := hk.slp (X := fun _ => False) (w0 := w0) h5.dev.below.size
  have hge := h5.ge
  have hsl1 : SlP w0 (fun k => False ∨ W5.heap.size ≤ k ∧ k < w6.heap.size) W2 (.slice ao l.length cap) (zP l) := by
    refine hsl0.kb ?_
    intro k hk'
    have hkl : k < w6.heap.size := hk'.elim (fun e' => Nat.lt_of_lt_of_le e' (Nat.le_trans h5.dev.below.size hs6)) (fun e' => e'.elim (fun x => x.elim) (fun x => x.2))
    have hkj : k ≠ jb := hk'.elim (fun e' => by omega) (fun e' => e'.elim (fun x => x.elim) (fun x => by omega))
    rw [e]
    exact (kb_set 4 _ k hkj).trans (hp_old w6 _ hkl)
  have hwo : WO W2 w6.heap.size jb g1 (.slice ao l.length cap) := by
    rw [e]
    exact (kb_set 4 _ w6.heap.size (by omega)).trans (hp_new w6 _ rfl)
  have hkw : Kb w0 (fun k => X k ∧ k ≠ jb) W5 W2 := by
    intro k hk'
    have hkj : k ≠ jb := hk'.elim (fun e' => by omega) (fun e' => e'.2)
    have hkl : k < W5.heap.size := hk'.elim (fun e' => Nat.lt_of_lt_of_le e' h5.dev.below.size) (fun e' => h5.dev.lt k e'.1)
    rw [e]
    exact (kb_set 4 _ k hkj).trans (hb6.block k hkl)
  refine ⟨cl_of h7.obj 0, ?_⟩
  refine (recover_run (X := X) (W := W2) l (fun _ h => .inl h) h5.own h7 (hsl1.less (fun k h => h.elim (fun x => x.elim) (fun x => .inr ⟨x.1, by simp; omega⟩))) hpn hl64 hfr hg hB (.inr ⟨hs6, by simp⟩) hwo (Kb.refl _ _ _)).mono ?_
  rintro e2 W' (⟨a1, a2, a3, a4⟩ | ⟨a1, a2, a3, a4⟩)
  · exact .inl ⟨a1, a2, a3, (hk5.t hkw).t (a4.less (fun _ h => h.1))⟩
  · exact .inr ⟨a1, a2, a3, (hk5.t hkw).t (a4.less (fun _ h => h.1))⟩

set_option maxHeartbeats 8000000 in
theorem recover_do (h : JS w0 X p jb N B fr n g r s W) (hd : s.dead = false) (hfr : fr + n ≤ N) (hN : N ≤ 4096) {m g1 c1 : Nat} (hm : IsMost n m) (hrd : readB (newest s fr) = (g1, c1)) (hg1 : g1 < 18446744073709551616) (hc0 : c1 ≠ 0) (hcm : c1 ≤ m) (l : Puts) (hl : keptP (newest s) fr c1 = l) (hpn : ∀ x ∈ l, x.1 < N ∧ x.2.size = 64) (hB : B + wcount (recoverO fr g1 l) ≤ 90000) :
    Calls Tryz.prog 52 #[.pointer (some ⟨jb, 0, none⟩)] W (RcPost w0 X p jb N B fr n g1 c1 s l W) := by
  have hm1 := hm.1
  have hll : l.length = c1 := by rw [← hl]; simp [keptP]
  have hcp : 1 + places c1 + c1 ≤ n := by
    have := places_mono hcm
    omega
  have J0 := cl_of h.obj 0
  have J1 := cl_of h.obj 1
  have HH := Lib.hid h
  have hrx : ∀ W, Calls Tryz.prog 85 #[.string (newest s fr)] W fun e w' => e = .returned (.tuple #[.int .u64 g1, .int .i64 c1]) ∧ Below W.heap.size W w' := fun W => by
    have := jread_any (newest s fr) (HH.out.ok.newest (by omega)) W
    rw [hrd] at this
    exact this
  have HR := Lib.hid hrx
  have HM := Lib.hid hm
  have hrd1 : ∀ W2, JS w0 X p jb N B fr n g r s W2 → Calls Tryz.prog 40 #[.pointer (some ⟨p, 0, none⟩), .int .i64 fr] W2 fun e W' => e = .returned (.tuple #[.string (newest s fr), .int .i64 0]) ∧ Below W2.heap.size W2 W' := fun W2 h2 => js_readb h2 hd fr (by omega)
  have HD := Lib.hid hrd1
  have hkp : ∀ W2, JS w0 X p jb N B fr n g1 r s W2 → Calls Tryz.prog 86 #[.pointer (some ⟨jb, 0, none⟩), .int .i64 c1] W2 fun e W' => ∃ v, e = .returned (.tuple #[v, .int .i64 0]) ∧ KpI2 W2 l v W' := fun W2 h2 => by
    rw [← hl]
    exact kept_any h2 hd c1 hcp hfr hN
  have HKP := Lib.hid hkp
  have e0 : ((c1 : Int) == 0) = false := by simp; omega
  have e1 : decide (m < c1) = false := decide_eq_false (by omega)
  generalize newest s fr = b0 at *
  have HLL := Lib.hid hll
  have hl6 : l.length < 65536 := by omega
  clear h hrx hrd hm hrd1 hkp hl hll
  go_enter Tryz.func52, Tryz.ntmps52
  go_wp2_with fail
  first | (go_region_held3 (fun W2 => W2.cell? ⟨jb, 0, none⟩ = some (.pointer (some ⟨p, 0, none⟩)) ∧ W2.cell? ⟨jb, 1, none⟩ = some (.int .i64 fr)) (first | exact ⟨J0, J1⟩ | assumption | exact ⟨cl_of (JS.obj (by assumption)) 0, cl_of (JS.obj (by assumption)) 1⟩) (first | (go_at_call 40; ((with_reducible refine (HD.out _ HH.out.drew).mono ?_); rintro e w3 ⟨rfl, hB3⟩; have hj3 := HH.out.drew.of hB3)))) | fail
  first | (rename_i hK; refine hK _ _ ?_; clear hK) | (rename_i hK _; refine hK _ _ ?_; clear hK) | (rename_i hK _ _; refine hK _ _ ?_; clear hK)
  have HB3 := Lib.hid (bt (Below.refl W.heap.size W).drew hB3)
  clear hj3 hB3 J0 J1
  go_wp2_with fail
  refine (HR.out _).mono ?_
  rintro e w4 ⟨rfl, hB4⟩
  have hj4 := HH.out.of (bt HB3.out hB4)
  have q3 := cl_of hj4.obj 3
  have f3 := fz_of hj4.obj 3
  obtain ⟨W5, hW5⟩ : ∃ W5, w4.setCell ⟨jb, 3, none⟩ (.int .u64 g1) = W5 := ⟨_, rfl⟩
  have hj5 := hj4.setGen g1
  have hk5 : Kb w0 (fun k => X k ∧ k ≠ jb) W (w4.setCell ⟨jb, 3, none⟩ (.int .u64 g1)) := fun k hk => (kb_set 3 _ k (hk.elim (fun e e' => by have := HH.out.ge; omega) (fun h => h.2))).trans (HH.out.kb (bt HB3.out hB4) k (hk.imp id (fun h => h.1)))
  rw [hW5] at hj5 hk5
  have HW5 := Lib.hid hW5
  have HJ5 := Lib.hid hj5
  have HK5 := Lib.hid hk5
  clear hj4 hB4 hW5 hj5 hk5
  go_wp2_with fail
  rw [HW5.out]
  refine (jmax_any HJ5.out HM.out (by omega)).mono ?_
  rintro e w6 ⟨rfl, rfl⟩
  clear q3 f3
  go_wp2_with fail
  refine (HKP.out _ HJ5.out).mono ?_
  rintro e w6 ⟨v, rfl, hkp⟩
  obtain ⟨ao, cap, rfl⟩ : ∃ ao cap, v = .slice ao l.length cap := by
    rcases hkp.row.2 with ⟨rfl, h0⟩ | ⟨g, c, cur, rfl, _⟩
    · rw [h0]; exact ⟨_, _, rfl⟩
    · exact ⟨_, _, rfl⟩
  have hj6 := blk_old (bblk hkp.below HJ5.out.obj) (.cells #[.pointer (some ⟨jb, 0, none⟩), .int .u64 g1, .slice ao l.length cap] 158)
  have q4 := cl_of hj6 4
  have f4 := fz_of hj6 4
  have hmd : ∀ W2, W2 = ((w6.alloc (.cells #[.pointer (some ⟨jb, 0, none⟩), .int .u64 g1, .slice ao l.length cap] 158)).setCell ⟨jb, 4, none⟩ (.int .i64 c1)).drew → _ := fun W2 e => recover_mid HJ5.out HK5.out hkp hpn hl6 (by omega) hg1 hB e
  have HMD := Lib.hid hmd
  clear hj6 hkp hmd
  go_wp2_with fail
  refine wp_region_tail 14 (by kernel_rfl) (by kernel_rfl) (fun W2 HW2 => ?_)
  obtain ⟨j0, hcr⟩ := HMD.out W2 HW2.out
  have HCR := Lib.hid hcr
  clear hcr q4 f4
  simp only [List.take_succ_cons, List.take_zero, List.drop_succ_cons, List.drop_zero]
  repeat still_step
  refine wpStill_nil ?_
  go_wp2_with fail
  refine HCR.out.mono ?_
  rintro e w7 (⟨hok, rfl, h7, k7⟩ | ⟨hok, rfl, h7, k7⟩)
  · have HO : Hid _ := Lib.hid (⟨hok, h7, k7⟩ : _ ∧ _ ∧ _)
    clear hok h7 k7
    go_wp2_with fail
    go_ret
    exact .inl ⟨HO.out.1, rfl, HO.out.2⟩
  · have HO : Hid _ := Lib.hid (⟨hok, h7, k7⟩ : _ ∧ _ ∧ _)
    clear hok h7 k7
    go_wp2_with fail
    go_ret
    exact .inr ⟨HO.out.1, rfl, HO.out.2⟩
end
end Go.Proofs.YtjjphcnoegaimaaGreat
