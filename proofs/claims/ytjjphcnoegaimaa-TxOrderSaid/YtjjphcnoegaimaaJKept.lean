/- Package journal: kept: the transaction that the area has. -/
import Derived.Test.YtjjphcnoegaimaaJCommit
namespace Go.Proofs.Ytjjphcnoegaimaa
open Go.RowKit Go.Shelf Go.Maps
set_option maxRecDepth 20000
set_option linter.unusedVariables false

def pcells (l : Puts) : List Value := l.flatMap fun x => [.int .i64 (x.1 : Int), .string x.2]
theorem pcells_snoc (l : Puts) (x : Nat × ByteArray) : pcells (l ++ [x]) = pcells l ++ [.int .i64 (x.1 : Int), .string x.2] := by simp [pcells]
theorem pcells_at : ∀ (l : Puts) (i : Nat) (h : i < l.length), (pcells l)[i * 2]? = some (.int .i64 (l[i].1 : Int)) ∧ (pcells l)[i * 2 + 1]? = some (.string l[i].2)
  | x :: l, 0, _ => ⟨rfl, rfl⟩
  | x :: l, i + 1, h => by
    have := pcells_at l i (by simpa using h)
    have e : pcells (x :: l) = .int .i64 (x.1 : Int) :: .string x.2 :: pcells l := rfl
    rw [e, show (i + 1) * 2 = i * 2 + 1 + 1 by omega]
    exact this
theorem Try.infoPut : (Try.prog.info? 76).map (fun i => (i.zero, i.size, i.bytes)) = some (some (.agg #[.int .i64 0, .string ByteArray.empty]), 2, 24) := by kernel_rfl
theorem infoPut : ∃ i0, Try.prog.info? 76 = some i0 ∧ i0.zero = some (.agg #[.int .i64 0, .string ByteArray.empty]) ∧ i0.size = 2 ∧ i0.bytes = 24 := by
  have h := Try.infoPut
  cases e : Try.prog.info? 76 with
  | none => rw [e] at h; cases h
  | some i =>
    rw [e] at h
    simp only [Option.map_some, Option.some.injEq, Prod.mk.injEq] at h
    exact ⟨i, rfl, h.1, h.2.1, h.2.2⟩

section
variable {w0 w W W' W1 : World} {X : Nat → Prop} {p jb N B fr n g r : Nat} {s : DS}
theorem js_readb (h : JS w0 X p jb N B fr n g r s W) (hd : s.dead = false) (i : Nat) (hi : i < N) : Calls Try.prog 20 #[.pointer (some ⟨p, 0, none⟩), .int .i64 i] W fun e W' =>
    e = .returned (.tuple #[.string (newest s i), .int .i64 0]) ∧ Below W.heap.size W W' := by
  have hh := h.ok.hard
  obtain ⟨hb, hc, m, L, h1, h2⟩ := h.dev.dev
  exact dev_read h1 hd i (by rw [hh]; exact hi)
/-- What stands in kept's loop. -/
structure KpI2 (W : World) (l : Puts) (v : Value) (wr : World) : Prop where
  row : wr.ownsRow W.heap.size 76 2 v l.length (pcells l)
  below : Below W.heap.size W wr
theorem KpI2.of {l : Puts} {v : Value} {wr w1 : World} (h : KpI2 W l v wr) (hB : Below wr.heap.size wr w1) : KpI2 W l v w1 := by
  refine ⟨?_, bt h.below hB⟩
  obtain ⟨hl, hr⟩ := h.row
  refine ⟨hl, ?_⟩
  rcases hr with h' | ⟨g, cap, cur, rfl, h0, hh, hr⟩
  · exact .inl h'
  · exact .inr ⟨g, cap, cur, rfl, h0, (hB.block g (blk_lt hh)).trans hh, hr⟩
theorem KpI2.step {l : Puts} {v v' : Value} {wr w1 : World} {x : Nat × ByteArray} (h : KpI2 W l v wr) (hown : w1.ownsRow W.heap.size 76 2 v' (l.length + 1) (pcells l ++ [.int .i64 (x.1 : Int), .string x.2])) (hg : wr.grownBy w1 v.ownBlock) : KpI2 W (l ++ [x]) v' w1 := by
  refine ⟨?_, h.below.grown hg h.below.size (fun g e => ?_)⟩
  · rw [pcells_snoc, List.length_append]
    exact hown
  · rcases h.row.2 with ⟨rfl, _⟩ | ⟨g', c, cur, rfl, h0, _⟩
    · cases e
    · cases e; exact h0
theorem KpI2.slp {l : Puts} {v : Value} {wr : World} (h : KpI2 W l v wr) (hw : w0.heap.size ≤ W.heap.size) : SlP w0 (fun k => X k ∨ W.heap.size ≤ k ∧ k < wr.heap.size) wr v (zP l) := by
  obtain ⟨hl, hr⟩ := h.row
  rcases hr with ⟨rfl, h0⟩ | ⟨g, cap, cur, rfl, h0, hh, hnc, hcm, hcs, hct⟩
  · refine ⟨none, 0, by rw [zP_length, h0], fun hp => ?_⟩
    rw [zP_length] at hp
    omega
  · refine ⟨some ⟨g, 0, none⟩, cap, by rw [zP_length], fun hp => ⟨g, 0, rfl, .inr (.inr ⟨h0, blk_lt hh⟩), fun i hi => ?_⟩⟩
    rw [zP_length] at hi
    rw [zP_get l i hi]
    obtain ⟨a, b⟩ := pcells_at l i hi
    have hc := fun j u (hj : (pcells l)[j]? = some u) => ownsRow_cell (ownsRow_base h.row) rfl hj
    exact ⟨by rw [Nat.zero_add]; exact hc _ _ a, by rw [Nat.zero_add]; exact hc _ _ b⟩
theorem places_quiet (m : Nat) (hm : m ≤ 100000) (w : World) : Calls Try.prog 108 #[.int .i64 m] w fun e w' => e = .returned (.int .i64 (places m : Nat)) ∧ w' = w := (places_any m hm w).mono (fun _ _ ⟨a, b⟩ => ⟨a, b.symm⟩)
theorem keptP_succ (f : Nat → ByteArray) (fr c k : Nat) (h : k < c) : (keptP f fr c).take (k + 1) = (keptP f fr c).take k ++ [(le (((f (fr + 1 + k / 32)).data.toList.take (2 * (k % 32) + 2)).drop (2 * (k % 32))), f (fr + 1 + places c + k))] := by
  have hl : k < (keptP f fr c).length := by simp [keptP, h]
  rw [List.take_succ_eq_append_getElem hl]
  simp [keptP]

set_option maxHeartbeats 8000000 in
theorem kept_any (h : JS w0 X p jb N B fr n g r s W) (hd : s.dead = false) (c : Nat) (hc : 1 + places c + c ≤ n) (hfr : fr + n ≤ N) (hN : N ≤ 4096) :
    Calls Try.prog 91 #[.pointer (some ⟨jb, 0, none⟩), .int .i64 c] W fun e W' => ∃ v, e = .returned (.tuple #[v, .int .i64 0]) ∧ KpI2 W (keptP (newest s) fr c) v W' := by
  have j1 := cl_of h.obj 1
  have HH := Lib.hid h
  have hs1 : IntKind.i64.wrap ((fr : Int) + 1) = (fr : Int) + 1 := i64_sm (by omega) (by omega)
  have hs2 : IntKind.i64.wrap ((fr : Int) + 1 + (places c : Nat)) = (fr : Int) + 1 + (places c : Nat) := i64_sm (by omega) (by omega)
  obtain ⟨i0, ii, hz0, hz1, hz2⟩ := infoPut
  clear h
  go_enter Try.func91, Try.ntmps91
  go_wp2_with fail
  go_quiet ((go_at_call 108; exact Calls.quiet_of_same (places_quiet c (by omega) _)))
  go_wp2_with fail
  go_loopw [4, 7, 8, 9, 10, 11, 12, 13, 23] (fun v4 _ _ _ _ _ _ _ v23 wr => ∃ k : Nat, k ≤ c ∧ v23 = .int .i64 k ∧ KpI2 W ((keptP (newest s) fr c).take k) v4 wr) (fun _ _ _ _ _ _ _ _ v23 _ => c - (intOf v23).toNat)
  case atStart => exact ⟨0, Nat.zero_le _, rfl, by rw [List.take_zero]; exact ⟨World.ownsRow_nil _ _ _ _, drewn_b (Below.refl _ _) nq⟩⟩
  case round =>
    obtain ⟨k, hk, rfl, hI⟩ := hrel
    by_cases hlt : k < c
    · have hj := HH.out.of hI.below
      have J0 := cl_of hj.obj 0
      have J1 := cl_of hj.obj 1
      have hsn := keptP_succ (newest s) fr c k hlt
      have HSN := Lib.hid hsn
      have HI := Lib.hid hI
      have HJ := Lib.hid hj
      have hp32 : k / 32 < places c := by unfold places; omega
      have hr1 : ∀ (W2 : World), JS w0 X p jb N B fr n g r s W2 → Calls Try.prog 20 #[.pointer (some ⟨p, 0, none⟩), .int .i64 ((fr : Int) + 1 + (k : Int) / 32)] W2 fun e W' => e = .returned (.tuple #[.string (newest s (fr + 1 + k / 32)), .int .i64 0]) ∧ Below W2.heap.size W2 W' := fun W2 hj2 => by
        rw [show (fr : Int) + 1 + (k : Int) / 32 = ((fr + 1 + k / 32 : Nat) : Int) by omega]
        exact js_readb hj2 hd (fr + 1 + k / 32) (by omega)
      have hr2 : ∀ (W2 : World), JS w0 X p jb N B fr n g r s W2 → Calls Try.prog 20 #[.pointer (some ⟨p, 0, none⟩), .int .i64 ((fr : Int) + 1 + (places c : Nat) + (k : Int))] W2 fun e W' => e = .returned (.tuple #[.string (newest s (fr + 1 + places c + k)), .int .i64 0]) ∧ Below W2.heap.size W2 W' := fun W2 hj2 => by
        rw [show (fr : Int) + 1 + (places c : Nat) + (k : Int) = ((fr + 1 + places c + k : Nat) : Int) by omega]
        exact js_readb hj2 hd (fr + 1 + places c + k) (by omega)
      have ht1 : (k : Int).tdiv 32 = (k : Int) / 32 := Int.tdiv_eq_ediv_of_nonneg (by omega)
      have ht2 : IntKind.i64.wrap ((k : Int) / 32) = (k : Int) / 32 := i64_sm (by omega) (by omega)
      have ht3 : IntKind.i64.wrap ((fr : Int) + 1 + (k : Int) / 32) = (fr : Int) + 1 + (k : Int) / 32 := i64_sm (by omega) (by omega)
      have HR1 := Lib.hid hr1
      have HR2 := Lib.hid hr2
      clear hr1 hr2
      have z1 : (newest s (fr + 1 + k / 32)).size = 64 := HH.out.ok.newest (by omega)
      generalize newest s (fr + 1 + k / 32) = t1 at *
      generalize newest s (fr + 1 + places c + k) = t2 at *
      obtain ⟨q, hq⟩ : ∃ q : Nat, k % 32 = q := ⟨_, rfl⟩
      have hq1 : (k : Int) % 32 = (q : Int) := by omega
      have hq2 : q < 32 := by omega
      rw [hq] at HSN
      have hx : t1.extract (q * 2) (q * 2 + 2) = bs ((t1.data.toList.take (2 * q + 2)).drop (2 * q)) := by
        rw [← bs_of t1, bs_extract, bs_data, Nat.mul_comm q 2]
      have hgt := fun W => get_bs2 ((t1.data.toList.take (2 * q + 2)).drop (2 * q)) (by simp; omega) W
      have hll := le_lt ((t1.data.toList.take (2 * q + 2)).drop (2 * q))
      have h256 : 256 ^ ((t1.data.toList.take (2 * q + 2)).drop (2 * q)).length ≤ 256 ^ 2 := Nat.pow_le_pow_right (by decide) (by simp; omega)
      have hle : le ((t1.data.toList.take (2 * q + 2)).drop (2 * q)) < 65536 := Nat.lt_of_lt_of_le hll h256
      have HG := Lib.hid hgt
      have HLE := Lib.hid hle
      generalize (t1.data.toList.take (2 * q + 2)).drop (2 * q) = tb at *
      generalize le tb = at1 at *
      clear hsn hI hj hgt hll h256 hq
      have hw9 : IntKind.i64.wrap (at1 : Int) = at1 := i64_sm (by omega) (by have := HLE.out; omega)
      clear hle
      go_wp2_with fail
      first | (go_region_held3 (fun W2 => W2.cell? ⟨jb, 0, none⟩ = some (.pointer (some ⟨p, 0, none⟩)) ∧ W2.cell? ⟨jb, 1, none⟩ = some (.int .i64 fr)) (first | exact ⟨J0, J1⟩ | assumption | exact ⟨cl_of (JS.obj (by assumption)) 0, cl_of (JS.obj (by assumption)) 1⟩) (first | (go_at_call 20; ((with_reducible refine (HR1.out _ HJ.out.drew).mono ?_); rintro e w3 ⟨rfl, hB3⟩; have hj3 := HJ.out.drew.of hB3)))) | fail
      first | (rename_i hK; refine hK _ _ ?_; clear hK) | (rename_i hK _; refine hK _ _ ?_; clear hK) | (rename_i hK _ _; refine hK _ _ ?_; clear hK)
      have HJ3 := Lib.hid hj3
      have J3 := cl_of hj3.obj 0
      have HI3 := Lib.hid (HI.out.of (bt (Below.refl wr.heap.size wr).drew hB3))
      clear hj3 hB3 J0 J1 ht1 ht2 ht3
      go_wp2_with fail
      refine (HG.out _).mono ?_
      rintro e w4 ⟨rfl, rfl⟩
      go_wp2_with fail
      refine (HR2.out _ HJ3.out).mono ?_
      rintro e w4 ⟨rfl, hB4⟩
      have hI5 := (HI3.out.of hB4).of (bnew w4 (.cells #[.int .i64 (at1 : Int), .string t2] 76))
      have hLk : ((keptP (newest s) fr c).take k).length = k := by simp [keptP]; omega
      generalize (keptP (newest s) fr c).take k = L at *
      have HI5 := Lib.hid hI5
      have hL3 : L.length + 1 ≤ maxLen := by unfold maxLen; omega
      have hL4 : (L.length + 1) * 24 ≤ 140737488355328 := by omega
      have hone : ∀ u ∈ [Value.int .i64 (at1 : Int), Value.string t2], u.oneCell' = true := by simp [Value.oneCell']
      have hL5 : W.heap.size ≤ (w4.alloc (.cells #[.int .i64 (at1 : Int), .string t2] 76)).heap.size := hI5.below.size
      clear hB4 hI5 hLk
      go_wp2_with (at_builtin; refine wpList_append_own _ rfl _ _ 52 rfl W.heap.size 76 i0 (.agg #[.int .i64 0, .string ByteArray.empty]) 2 24 Try.underlying52 ii hz0 hz1 hz2 rfl (by decide) _ L.length (pcells L) rfl HI5.out.row ⟨w4.heap.size, 0, none⟩ 1 1 [.int .i64 (at1 : Int), .string t2] rfl rfl (World.news_of_block (hp_new _ _ rfl)) hone hL3 hL4 hL5 ?_; intro v' w5 hown' hgrow _)
      have HST := Lib.hid (KpI2.step (x := (at1, t2)) HI5.out hown' hgrow)
      clear hown' hgrow
      go_roundw
      case rel => exact ⟨k + 1, by omega, by go_num, by rw [HSN.out]; exact HST.out⟩
      case measure => simp [intOf]; omega
    · obtain rfl : k = c := by omega
      rw [List.take_of_length_le (by simp [keptP])] at hI
      go_wp2_with fail
      go_ret2
      exact ⟨_, rfl, hI⟩
end
end Go.Proofs.Ytjjphcnoegaimaa
