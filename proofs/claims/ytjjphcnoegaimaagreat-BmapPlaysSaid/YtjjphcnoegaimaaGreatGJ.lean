/- Package journal: record: the whole transaction in the area. Package journal: run: steps, one behind the other. -/
import Derived.Test.YtjjphcnoegaimaaGreatJWork
import Derived.WalkMore
import Derived.Deep.LoopGhost
namespace Go.Proofs.YtjjphcnoegaimaaGreat
open Go.RowKit Go.Shelf Go.Maps
set_option maxRecDepth 20000
set_option linter.unusedVariables false

section
variable {w0 w W : World} {X : Nat → Prop} {p jb N B fr n g r : Nat} {s : DS}
set_option maxHeartbeats 4000000 in
/-- The closure that writes the next sector of the area. -/
theorem put_any' {A Bk wb a g' : Nat} {lv : Value} (h : JS w0 X p jb N B fr n g r s W) (hA : W.heap[A]? = some (.cells #[.pointer (some ⟨wb, 0, none⟩)] 156 (0, 0))) (hb : W.heap[Bk]? = some (.cells #[.int .i64 a] 3 (0, 0))) (hw : WO W wb jb g' lv)
    (hxA : X A) (hxB : X Bk) (hxw : X wb) (hge : w0.heap.size ≤ Bk) (d : ByteArray) (hd : d.size ≤ 64) (ha : a < N) (hN : N ≤ 4096) (hB : B + 1 ≤ 90000) :
    Calls Tryz.prog 105 #[.string d, .pointer (some ⟨Bk, 0, none⟩), .pointer (some ⟨A, 0, none⟩)] W fun e W' =>
      e = .returned (.int .i64 (errO (runO s [.wr a (pad64 d.data.toList)]))) ∧ JS w0 X p jb N (B + 1) fr n g r (runO s [.wr a (pad64 d.data.toList)]).1 W' ∧ W'.heap[Bk]? = some (.cells #[.int .i64 ((a + 1 : Nat) : Int)] 3 (0, 0)) ∧ Kb w0 (fun k => X k ∧ k ≠ Bk) W W' := by
  have n1 : Bk ≠ jb := by rintro rfl; have := hb.symm.trans h.obj; simp at this
  have n2 : Bk ≠ A := by rintro rfl; have := hb.symm.trans hA; simp at this
  have n3 : Bk ≠ wb := by rintro rfl; have := hb.symm.trans hw; simp at this
  have hpd : ∀ W, Calls Tryz.prog 106 #[.string d, .int .i64 64] W fun e w' => e = .returned (.tuple #[.string (pad64 d.data.toList), .int .i64 0]) ∧ Below W.heap.size W w' := fun W => by
    have := pad64_any d.data.toList hd W
    rw [bs_of] at this
    exact this
  have hsz : (pad64 d.data.toList).size = 64 := pad64_size hd
  generalize pad64 d.data.toList = q at *
  have hmid : ∀ w1, Below W.heap.size W w1 → w1.heap[Bk]? = some (.cells #[.int .i64 a] 3 (0, 0)) := fun w1 hB => bblk hB hb
  have hres := fun (w1 W2 : World) (hB1 : Below W.heap.size W w1) (e : W2 = (w1.setCell ⟨Bk, 0, none⟩ (.int .i64 ((a : Int) + 1))).drew) => (by
    rw [e]
    have h1 := ((h.of hB1).set hxB hge n1 0 (.int .i64 ((a : Int) + 1))).drew
    have e1 := (kb_set (W := w1) (b := Bk) 0 (.int .i64 ((a : Int) + 1)) A (fun e => n2 e.symm)).trans (bblk hB1 hA)
    have e2 := (kb_set (W := w1) (b := Bk) 0 (.int .i64 ((a : Int) + 1)) wb (fun e => n3 e.symm)).trans (bblk hB1 hw)
    have e3 := blk_here (bblk hB1 hb) 0 (.int .i64 ((a : Int) + 1))
    exact ⟨h1, cl_of e1 0, cl_of e2 0, cl_of h1.obj 0, cl_of e3 0, e3, fun k hk => (kb_set 0 _ k (hk.elim (fun e e' => by omega) (fun e => e.2))).trans (h.kb hB1 k (hk.imp id (fun e => e.1)))⟩ : JS w0 X p jb N B fr n g r s W2 ∧ W2.cell? ⟨A, 0, none⟩ = some (.pointer (some ⟨wb, 0, none⟩)) ∧ W2.cell? ⟨wb, 0, none⟩ = some (.pointer (some ⟨jb, 0, none⟩)) ∧ W2.cell? ⟨jb, 0, none⟩ = some (.pointer (some ⟨p, 0, none⟩)) ∧ W2.cell? ⟨Bk, 0, none⟩ = some (.int .i64 ((a : Int) + 1)) ∧ W2.heap[Bk]? = some (.cells #[.int .i64 ((a : Int) + 1)] 3 (0, 0)) ∧ Kb w0 (fun k => X k ∧ k ≠ Bk) W W2)
  have HRS := Lib.hid hres
  have HMD := Lib.hid hmid
  have HPD := Lib.hid hpd
  have HSZ := Lib.hid hsz
  clear hres hpd hsz h hw hA hb hmid hd
  go_enter Tryz.func105, Tryz.ntmps105
  go_wp2_with fail
  refine (HPD.out _).mono ?_
  rintro e w1 ⟨rfl, hB1⟩
  have hm := HMD.out w1 hB1
  have m0 := cl_of hm 0
  have f0 := fz_of hm 0
  clear hm
  go_wp2_with fail
  refine wp_region_tail 10 (by kernel_rfl) (by kernel_rfl) (fun W2 HW2 => ?_)
  obtain ⟨hI2, q0, q1, j0, a0, hbk, hk2⟩ := HRS.out w1 W2 hB1 HW2.out
  have HWR := Lib.hid (js_write hI2 (by omega) a ha q HSZ.out)
  have HI2 := Lib.hid hI2
  clear hI2
  simp only [List.take_succ_cons, List.take_zero, List.drop_succ_cons, List.drop_zero]
  repeat still_step
  refine wpStill_nil ?_
  go_wp2_with fail
  refine HWR.out.mono ?_
  rintro e w4 ⟨rfl, h4, k4⟩
  go_wp2_with fail
  go_ret
  exact ⟨rfl, h4, by rw [k4 Bk (.inr hxB), hbk]; push_cast; rfl, hk2.t (k4.less (fun _ h => h.1))⟩

theorem wrsO_take_succ (a : Nat) (T : List ByteArray) (j : Nat) (h : j < T.length) : wrsO a (T.take (j + 1)) = wrsO a (T.take j) ++ [.wr (a + j) T[j]] := by
  rw [List.take_succ_eq_append_getElem h, wrsO_append, List.length_take, Nat.min_eq_left (by omega)]
  rfl
theorem wrsO_parts (a : Nat) (T : List ByteArray) (j : Nat) (h : j < T.length) : wrsO a T = wrsO a (T.take j) ++ wrsO (a + j) (T.drop j) ∧ wrsO (a + j) (T.drop j) ≠ [] := by
  constructor
  · have := wrsO_append (T.take j) (T.drop j) a
    rw [List.take_append_drop, List.length_take, Nat.min_eq_left (by omega)] at this
    exact this
  · intro e
    have := congrArg List.length e
    rw [wrsO_length] at this
    simp at this
    omega
/-- The area's write number j. -/
theorem put_step {A Bk wb g' : Nat} {lv : Value} {T : List ByteArray} {j : Nat} (h : JS w0 X p jb N (B + j) fr n g r (runO s (wrsO (fr + 1) (T.take j))).1 W) (hok : (runO s (wrsO (fr + 1) (T.take j))).2 = true) (hA : W.heap[A]? = some (.cells #[.pointer (some ⟨wb, 0, none⟩)] 156 (0, 0))) (hb : W.heap[Bk]? = some (.cells #[.int .i64 ((fr + 1 + j : Nat) : Int)] 3 (0, 0))) (hw : WO W wb jb g' lv)
    (hxA : X A) (hxB : X Bk) (hxw : X wb) (hge : w0.heap.size ≤ Bk) (hj : j < T.length) (d : ByteArray) (hd : d.size ≤ 64) (hdT : pad64 d.data.toList = T[j]) (ha : fr + 1 + T.length ≤ N) (hN : N ≤ 4096) (hB : B + j + 1 ≤ 90000) :
    Calls Tryz.prog 105 #[.string d, .pointer (some ⟨Bk, 0, none⟩), .pointer (some ⟨A, 0, none⟩)] W fun e W' =>
      (e = .returned (.int .i64 0) ∧ JS w0 X p jb N (B + (j + 1)) fr n g r (runO s (wrsO (fr + 1) (T.take (j + 1)))).1 W' ∧ (runO s (wrsO (fr + 1) (T.take (j + 1)))).2 = true ∧ W'.heap[Bk]? = some (.cells #[.int .i64 ((fr + 1 + (j + 1) : Nat) : Int)] 3 (0, 0)) ∧ Kb w0 (fun k => X k ∧ k ≠ Bk) W W') ∨
      (e = .returned (.int .i64 30) ∧ JS w0 X p jb N (B + T.length) fr n g r (runO s (wrsO (fr + 1) T)).1 W' ∧ (runO s (wrsO (fr + 1) T)).2 = false ∧ Kb w0 (fun k => X k ∧ k ≠ Bk) W W') := by
  refine (put_any' h hA hb hw hxA hxB hxw hge d hd (by omega) hN (by omega)).mono ?_
  rintro e W' ⟨rfl, h2, h3, h4⟩
  rw [hdT] at h2 ⊢
  have e1 := wrsO_take_succ (fr + 1) T j hj
  cases hdd : (runO s (wrsO (fr + 1) (T.take j))).1.dead
  · have hg := runO_go (o := .wr (fr + 1 + j) T[j]) hok hdd
    rw [runO_one, if_neg (by rw [hdd]; decide)] at h2 ⊢
    refine .inl ⟨rfl, ?_, ?_, h3, h4⟩
    · rw [e1, hg]; exact h2
    · rw [e1, hg]
  · obtain ⟨e2, hne⟩ := wrsO_parts (fr + 1) T j hj
    have hg := runO_stop hok hdd hne
    rw [← e2] at hg
    rw [runO_one, if_pos hdd] at h2 ⊢
    refine .inr ⟨rfl, ?_, by rw [hg], h4⟩
    rw [hg]
    exact h2.mono (by omega)

/-- The places of a transaction's first sectors. -/
theorem tellP_snoc (l : Puts) (k : Nat) (h : k < l.length) : tellP (l.take (k + 1)) = tellP (l.take k) ++ bytesLE l[k].1 2 := by
  rw [List.take_succ_eq_append_getElem h, tellP, List.flatMap_append]
  simp [tellP]
theorem cnt_places (l : Puts) : ((tellP l).length + 63) / 64 = places l.length := by rw [tellP_length]; unfold places; omega
theorem areaL_part (l : Puts) (k : Nat) (h : k < places l.length) : ∃ hk : k < (areaL l).length, (areaL l)[k] = pad64 (partP (tellP l) k) := by
  refine ⟨by rw [areaL_length]; omega, ?_⟩
  simp only [areaL]
  rw [List.getElem_append_left (by simpa using h)]
  simp
theorem areaL_data (l : Puts) (k : Nat) (h : k < l.length) : ∃ hk : places l.length + k < (areaL l).length, (areaL l)[places l.length + k] = l[k].2 := by
  refine ⟨by rw [areaL_length]; omega, ?_⟩
  simp only [areaL]
  rw [List.getElem_append_right (by simp)]
  simp

/-- What stands in record's loops over the area. -/
structure RcI (w0 : World) (X : Nat → Prop) (p jb N B fr n g r : Nat) (s : DS) (l : Puts) (A Bk wb g' : Nat) (lv : Value) (W : World) (j : Nat) (wr : World) : Prop where
  js : JS w0 X p jb N (B + j) fr n g r (runO s (wrsO (fr + 1) ((areaL l).take j))).1 wr
  ok : (runO s (wrsO (fr + 1) ((areaL l).take j))).2 = true
  a : wr.heap[A]? = some (.cells #[.pointer (some ⟨wb, 0, none⟩)] 156 (0, 0))
  b : wr.heap[Bk]? = some (.cells #[.int .i64 ((fr + 1 + j : Nat) : Int)] 3 (0, 0))
  w : WO wr wb jb g' lv
  kb : Kb w0 (fun k => X k ∧ k ≠ Bk) W wr
theorem RcI.of {A Bk wb g' : Nat} {lv : Value} {l : Puts} {j : Nat} {wr w1 : World} (h : RcI w0 X p jb N B fr n g r s l A Bk wb g' lv W j wr) (hB : Below wr.heap.size wr w1) : RcI w0 X p jb N B fr n g r s l A Bk wb g' lv W j w1 :=
  ⟨h.js.of hB, h.ok, bblk hB h.a, bblk hB h.b, bblk hB h.w, h.kb.t ((h.js.kb hB).less (fun _ h => h.1))⟩
theorem RcI.put {A Bk wb g' : Nat} {lv : Value} {l : Puts} {j : Nat} {wr : World} (h : RcI w0 X p jb N B fr n g r s l A Bk wb g' lv W j wr) (hxA : X A) (hxB : X Bk) (hxw : X wb) (hge : w0.heap.size ≤ Bk) (hnA : A ≠ Bk) (hnw : wb ≠ Bk) (hj : j < (areaL l).length) (d : ByteArray) (hd : d.size ≤ 64) (hdT : pad64 d.data.toList = (areaL l)[j]) (ha : fr + 1 + (areaL l).length ≤ N) (hN : N ≤ 4096) (hB : B + (areaL l).length ≤ 90000) :
    Calls Tryz.prog 105 #[.string d, .pointer (some ⟨Bk, 0, none⟩), .pointer (some ⟨A, 0, none⟩)] wr fun e W' =>
      (e = .returned (.int .i64 0) ∧ RcI w0 X p jb N B fr n g r s l A Bk wb g' lv W (j + 1) W') ∨
      (e = .returned (.int .i64 30) ∧ JS w0 X p jb N (B + (areaL l).length) fr n g r (runO s (wrsO (fr + 1) (areaL l))).1 W' ∧ (runO s (wrsO (fr + 1) (areaL l))).2 = false ∧ Kb w0 (fun k => X k ∧ k ≠ Bk) W W') := by
  refine (put_step h.js h.ok h.a h.b h.w hxA hxB hxw hge hj d hd hdT ha hN (by omega)).mono ?_
  rintro e W' (⟨rfl, h1, h2, h3, h4⟩ | ⟨rfl, h1, h2, h4⟩)
  · exact .inl ⟨rfl, h1, h2, (h4 A (.inr ⟨hxA, hnA⟩)).trans h.a, h3, (h4 wb (.inr ⟨hxw, hnw⟩)).trans h.w, h.kb.t h4⟩
  · exact .inr ⟨rfl, h1, h2, h.kb.t h4⟩

theorem SpI.form {w W : World} {L : List UInt8} {k : Nat} {v : Value} (h : SpI w L k v W) : ∃ ao cp, v = .slice ao k cp ∧ (0 < k → ∃ g, ao = some ⟨g, 0, none⟩ ∧ w.heap.size ≤ g ∧ g < W.heap.size ∧ ∀ j, j < k → W.cell? ⟨g, j, none⟩ = some (.string (bs (partP L j)))) := by
  obtain ⟨hl, hr⟩ := h.row
  rcases hr with ⟨rfl, rfl⟩ | ⟨g, cap, cur, rfl, h0, hh, hr⟩
  · exact ⟨_, _, rfl, fun h => absurd h (by omega)⟩
  · refine ⟨_, _, rfl, fun _ => ⟨g, rfl, h0, blk_lt hh, fun j hj => ?_⟩⟩
    exact ownsRow_cell (ownsRow_base h.row) rfl (by simp [sv, partsK, hj])

/-- What is left behind record. -/
theorem RcI.over {Bk : Nat} {l : Puts} {X2 : Nat → Prop} {w3 wr : World} (h : JS w0 X p jb N B fr n g r s W) (hX : ∀ k, X k → X2 k) (hBk : W.heap.size ≤ Bk) (hB : Below W.heap.size W w3) (h2 : JS w0 X2 p jb N (B + (areaL l).length) fr n g r (runO s (wrsO (fr + 1) (areaL l))).1 wr) (k2 : Kb w0 (fun k => X2 k ∧ k ≠ Bk) w3 wr) (e : Ending) (he : e = .returned (.int .i64 (errO (runO s (wrsO (fr + 1) (areaL l)))))) :
    WkPost w0 X p jb N B fr n g r s (wrsO (fr + 1) (areaL l)) W e wr := by
  refine ⟨he, ?_, (h.kb hB).t (k2.less (fun k hk => ⟨hX k hk, fun e => ?_⟩))⟩
  · rw [wcount_wrs]
    exact h2.less hX h.own
  · have := h.dev.lt k hk
    omega

set_option maxHeartbeats 8000000 in
theorem record_any {wb : Nat} {lv : Value} {g' : Nat} (l : Puts) (h : JS w0 X p jb N B fr n g r s W) (hw : WO W wb jb g' lv) (hx : X wb) (hl : SlP w0 X W lv (zP l)) (hB : B + (areaL l).length ≤ 90000) (hp : ∀ x ∈ l, x.1 < 65536 ∧ x.2.size = 64) (hlen : l.length ≤ 4096) (ha : fr + 1 + (areaL l).length ≤ N) (hN : N ≤ 4096) :
    Calls Tryz.prog 77 #[.pointer (some ⟨wb, 0, none⟩)] W (WkPost w0 X p jb N B fr n g r s (wrsO (fr + 1) (areaL l)) W) := by
  obtain ⟨ao, cap, rfl, hval⟩ := hl
  rw [zP_length] at hw hval
  have hw0 := cl_of hw 0
  have hw2 := cl_of hw 2
  have hj1 := cl_of h.obj 1
  have HV := Lib.hid hval
  have HH := Lib.hid h
  have HWO := Lib.hid hw
  have a1 := blk_old hw (.cells #[.pointer (some ⟨wb, 0, none⟩)] 156)
  have a2 := blk_old h.obj (.cells #[.pointer (some ⟨wb, 0, none⟩)] 156)
  have b1 := cl_of a1 0
  have b2 := cl_of a2 1
  have c1 := cl_of (blk_old a1 (.cells #[.int .i64 ((fr : Int) + 1)] 3)) 2
  have c2 := cl_of (blk_old (hp_new W (.cells #[.pointer (some ⟨wb, 0, none⟩)] 156) rfl) (.cells #[.int .i64 ((fr : Int) + 1)] 3)) 0
  have hw1 : IntKind.i64.wrap ((fr : Int) + 1) = (fr : Int) + 1 := i64_sm (by omega) (by omega)
  have hA0 := blk_old (hp_new W (.cells #[.pointer (some ⟨wb, 0, none⟩)] 156) rfl) (.cells #[.int .i64 ((fr : Int) + 1)] 3)
  have hB0 : ((W.alloc (.cells #[.pointer (some ⟨wb, 0, none⟩)] 156)).alloc (.cells #[.int .i64 ((fr : Int) + 1)] 3)).heap[W.heap.size + 1]? = some (.cells #[.int .i64 ((fr : Int) + 1)] 3 (0, 0)) := hp_new _ _ (by simp)
  have HA0 := Lib.hid hA0
  have HB0 := Lib.hid hB0
  have HBW : Hid (Below W.heap.size W ((W.alloc (.cells #[.pointer (some ⟨wb, 0, none⟩)] 156)).alloc (.cells #[.int .i64 ((fr : Int) + 1)] 3))) := Lib.hid (bal (bnew _ _) _)
  have HN := h.dev.old
  have HO : Hid (∀ k, (k < w0.heap.size ∨ X k) → k < W.heap.size) := Lib.hid HN
  clear hval h hw a1 a2 hA0 hB0 HN
  go_enter Tryz.func77, Tryz.ntmps77
  go_wp2_with fail
  go_loopw [5, 7, 30] (fun v5 _ v30 wr => ∃ k : Nat, k ≤ l.length ∧ v30 = .int .i64 k ∧ v5 = .string (bs (tellP (l.take k))) ∧ Below (W.heap.size + 2) ((W.alloc (.cells #[.pointer (some ⟨wb, 0, none⟩)] 156)).alloc (.cells #[.int .i64 ((fr : Int) + 1)] 3)) wr) (fun _ _ v30 _ => l.length - (intOf v30).toNat)
  case atStart => exact ⟨0, Nat.zero_le _, rfl, rfl, Below.refl _ _⟩
  case round =>
    obtain ⟨k, hk, rfl, rfl, hBr⟩ := hrel
    have hBW : Below W.heap.size W wr := HBW.out.trans (hBr.mono (by omega))
    by_cases hlt : k < l.length
    · obtain ⟨b, off, rfl, hb, hc⟩ := HV.out (by omega)
      obtain ⟨c0, c1'⟩ := hc k hlt
      rw [zP_get l k hlt] at c0 c1'
      have hbl := HO.out b hb
      have d0 := (hBW.cell (p := ⟨b, off + k * 2, none⟩) hbl).trans c0
      have d1 := (hBW.cell (p := ⟨b, off + k * 2 + 1, none⟩) hbl).trans c1'
      have hx1 := (hp l[k] (List.getElem_mem hlt)).1
      have hsn := tellP_snoc l k hlt
      have hap := bs_append (tellP (l.take k)) (bytesLE l[k].1 2)
      rw [← hsn] at hap
      have hz1 : (bs (tellP (l.take k))).size ≤ 8192 := by rw [bs_size, tellP_length, List.length_take]; omega
      have hz2 : (bs (bytesLE l[k].1 2)).size = 2 := by rw [bs_size, bytesLE_length]
      have HAP := Lib.hid hap
      clear hc c0 c1' hsn hap
      generalize l[k] = x at *
      obtain ⟨sec, dat⟩ := x
      dsimp only at *
      have hww : IntKind.u64.wrap (sec : Int) = sec := IntWalk.u64_in _ (by omega)
      have hnm : ∀ W, Calls Tryz.prog 108 #[.int .u64 sec, .int .i64 2] W fun e w' => e = .returned (.string (bs (bytesLE sec 2))) ∧ Below W.heap.size W w' := fun W => jnum_any (sec : Int) 2 (by omega) (by omega) (by decide) (by decide) (.inr (by show sec < 65536; omega)) W
      have HNM := Lib.hid hnm
      clear hnm
      generalize tellP (l.take k) = t1 at *
      go_wp2_with fail
      refine (HNM.out _).mono ?_
      rintro e w1 ⟨rfl, hB1⟩
      have HB1 := Lib.hid (hBr.trans (((bnew wr (.cells #[.int .i64 sec, .string dat] 111)).trans (hB1.mono (by simp))).mono (by have := hBr.size; simp at this; omega)))
      clear hB1
      go_wp2_with fail
      go_roundw
      case rel => exact ⟨k + 1, by omega, by go_num, by rw [HAP.out], HB1.out⟩
      case measure => simp [intOf]; omega
    · obtain rfl : k = l.length := by omega
      rw [List.take_of_length_le (Nat.le_refl _)]
      obtain ⟨wo, rfl⟩ : ∃ wo : World, wo = wr := ⟨_, rfl⟩
      have hspl := split_any (tellP l) (by rw [tellP_length]; omega) wo
      rw [cnt_places] at hspl
      have HSP := Lib.hid hspl
      have hh1 := HH.out.take hBW
      have hA1 := (hBr.block W.heap.size (by omega)).trans HA0.out
      have hB1 := (hBr.block (W.heap.size + 1) (by omega)).trans HB0.out
      have hsz : W.heap.size + 2 ≤ wo.heap.size := by have := hBr.size; simp at this; omega
      have HA1 := Lib.hid hA1
      have HB1 := Lib.hid hB1
      have HH1 := Lib.hid hh1
      have HW1 : Hid (WO wo wb jb g' (.slice ao l.length cap)) := Lib.hid (bblk hBW HWO.out)
      clear hspl hh1 hA1 hB1 c1 c2 b1 b2 hw0 hw2 hj1 hw1
      go_wp2_with fail
      refine HSP.out.mono ?_
      rintro e w3 ⟨v, rfl, hsp⟩
      obtain ⟨ao2, cp2, rfl, hcells⟩ := hsp.form
      have HCE := Lib.hid hcells
      have HBS := Lib.hid hsp.below
      have HB3 : Hid (Below W.heap.size W w3) := Lib.hid (bt hBW hsp.below)
      have hh3 := HH1.out.take hsp.below
      have hst : RcI w0 (fun k => (X k ∨ W.heap.size ≤ k ∧ k < wo.heap.size) ∨ wo.heap.size ≤ k ∧ k < w3.heap.size) p jb N B fr n g r s l W.heap.size (W.heap.size + 1) wb g' (.slice ao l.length cap) w3 0 w3 :=
        ⟨by rw [List.take_zero]; exact hh3, by rw [List.take_zero]; rfl, bblk hsp.below HA1.out, by rw [bblk hsp.below HB1.out]; rfl, bblk hsp.below HW1.out, Kb.refl _ _ _⟩
      have HST := Lib.hid hst
      clear hst hh3 hsp hcells hBW hBr
      have hXA : (X W.heap.size ∨ W.heap.size ≤ W.heap.size ∧ W.heap.size < wo.heap.size) ∨ wo.heap.size ≤ W.heap.size ∧ W.heap.size < w3.heap.size := .inl (.inr ⟨Nat.le_refl _, by omega⟩)
      have hXB : (X (W.heap.size + 1) ∨ W.heap.size ≤ W.heap.size + 1 ∧ W.heap.size + 1 < wo.heap.size) ∨ wo.heap.size ≤ W.heap.size + 1 ∧ W.heap.size + 1 < w3.heap.size := .inl (.inr ⟨by omega, by omega⟩)
      have hge : w0.heap.size ≤ W.heap.size + 1 := by have := HH.out.dev.below.size; omega
      have hwbl := HO.out wb (.inr hx)
      have hputs : ∀ (W' : World) (j : Nat) (hj : j < (areaL l).length) (d : ByteArray) (hd : d.size ≤ 64) (hdT : pad64 d.data.toList = (areaL l)[j]), RcI w0 (fun k => (X k ∨ W.heap.size ≤ k ∧ k < wo.heap.size) ∨ wo.heap.size ≤ k ∧ k < w3.heap.size) p jb N B fr n g r s l W.heap.size (W.heap.size + 1) wb g' (.slice ao l.length cap) w3 j W' →
          Calls Tryz.prog 105 #[.string d, .pointer (some ⟨W.heap.size + 1, 0, none⟩), .pointer (some ⟨W.heap.size, 0, none⟩)] W' fun e W2 =>
          (e = .returned (.int .i64 0) ∧ RcI w0 (fun k => (X k ∨ W.heap.size ≤ k ∧ k < wo.heap.size) ∨ wo.heap.size ≤ k ∧ k < w3.heap.size) p jb N B fr n g r s l W.heap.size (W.heap.size + 1) wb g' (.slice ao l.length cap) w3 (j + 1) W2) ∨
          (e = .returned (.int .i64 30) ∧ WkPost w0 X p jb N B fr n g r s (wrsO (fr + 1) (areaL l)) W (.returned (.int .i64 30)) W2) := by
        intro W' j hj d hd hdT hI
        refine (hI.put hXA hXB (.inl (.inl hx)) hge (by omega) (by omega) hj d hd hdT ha hN hB).mono ?_
        rintro e W2 (⟨rfl, h1⟩ | ⟨rfl, h1, h2, h3⟩)
        · exact .inl ⟨rfl, h1⟩
        · exact .inr ⟨rfl, RcI.over HH.out (fun _ h => .inl (.inl h)) (by omega) HB3.out h1 h3 _ (by rw [errO, h2]; rfl)⟩
      have HPU := Lib.hid hputs
      clear hputs hXA hXB hge
      go_wp2_with fail
      go_loopw [2, 11, 12, 48] (fun _ _ _ v48 wq => ∃ k : Nat, k ≤ places l.length ∧ v48 = .int .i64 k ∧ RcI w0 (fun k => (X k ∨ W.heap.size ≤ k ∧ k < wo.heap.size) ∨ wo.heap.size ≤ k ∧ k < w3.heap.size) p jb N B fr n g r s l W.heap.size (W.heap.size + 1) wb g' (.slice ao l.length cap) w3 k wq) (fun _ _ _ v48 _ => places l.length - (intOf v48).toNat)
      case atStart => exact ⟨0, Nat.zero_le _, rfl, HST.out⟩
      case round =>
        obtain ⟨k, hk, rfl, hI⟩ := hrel
        by_cases hlt : k < places l.length
        · obtain ⟨g2, rfl, hg1, hg2, hcl⟩ := HCE.out (by omega)
          have hcell := (hI.kb.cell (b := g2) (.inr ⟨.inr ⟨hg1, hg2⟩, by omega⟩) k).trans (hcl k hlt)
          obtain ⟨hka, hkT⟩ := areaL_part l k hlt
          have hcall := HPU.out wr k hka (bs (partP (tellP l) k)) (by rw [bs_size]; exact partP_length _ _) (by rw [bs_data, hkT]) hI
          have HCA := Lib.hid hcall
          clear hcall hcl hkT hI
          generalize bs (partP (tellP l) k) = d at *
          go_wp2_with fail
          refine HCA.out.mono ?_
          rintro e w5 (⟨rfl, h5⟩ | ⟨rfl, h5⟩)
          · go_wp2_with fail
            go_roundw
            case rel => exact ⟨k + 1, by omega, by go_num, h5⟩
            case measure => simp [intOf]; omega
          · go_wp2_with fail
            go_ret
            exact h5
        · obtain rfl : k = places l.length := by omega
          obtain ⟨wz, rfl⟩ : ∃ wz : World, wz = wr := ⟨_, rfl⟩
          have HST2 := Lib.hid hI
          have HOW : Hid (∀ (b i : Nat), (b < w0.heap.size ∨ X b) → w3.cell? ⟨b, i, none⟩ = W.cell? ⟨b, i, none⟩) := Lib.hid (fun b i hb => HB3.out.cell (p := ⟨b, i, none⟩) (HO.out b hb))
          have e2 := cl_of hI.w 2
          have e1 := cl_of hI.a 0
          clear hI
          go_wp2_with fail
          go_loopw [2, 14, 15, 64] (fun _ _ _ v64 wq => ∃ k : Nat, k ≤ l.length ∧ v64 = .int .i64 k ∧ RcI w0 (fun k => (X k ∨ W.heap.size ≤ k ∧ k < wo.heap.size) ∨ wo.heap.size ≤ k ∧ k < w3.heap.size) p jb N B fr n g r s l W.heap.size (W.heap.size + 1) wb g' (.slice ao l.length cap) w3 (places l.length + k) wq) (fun _ _ _ v64 _ => l.length - (intOf v64).toNat)
          case atStart => exact ⟨0, Nat.zero_le _, rfl, HST2.out⟩
          case round =>
            obtain ⟨k, hk, rfl, hI⟩ := hrel
            by_cases hlt : k < l.length
            · obtain ⟨b, off, rfl, hb, hc⟩ := HV.out (by omega)
              obtain ⟨c0, c1⟩ := hc k hlt
              rw [zP_get l k hlt] at c0 c1
              have hbl := HO.out b hb
              have hbk : b < w0.heap.size ∨ ((X b ∨ W.heap.size ≤ b ∧ b < wo.heap.size) ∨ wo.heap.size ≤ b ∧ b < w3.heap.size) ∧ b ≠ W.heap.size + 1 := hb.imp id (fun h => ⟨.inl (.inl h), by omega⟩)
              have d0 := ((hI.kb.cell hbk _).trans (HOW.out b _ hb)).trans c0
              have d1 := ((hI.kb.cell hbk _).trans (HOW.out b _ hb)).trans c1
              obtain ⟨hka, hkT⟩ := areaL_data l k hlt
              have hx2 := (hp l[k] (List.getElem_mem hlt)).2
              have hcall := HPU.out (wr.alloc (.cells #[.int .i64 (l[k].1 : Int), .string l[k].2] 111)) (places l.length + k) hka l[k].2 (by omega) (by rw [pad64_full hx2, hkT]) (hI.of (bnew _ _))
              have HCA := Lib.hid hcall
              clear hcall hkT hI hc c0 c1 hbk
              generalize l[k] = x at *
              obtain ⟨sec, dat⟩ := x
              dsimp only at *
              go_wp2_with fail
              refine HCA.out.mono ?_
              rintro e w5 (⟨rfl, h5⟩ | ⟨rfl, h5⟩)
              · go_wp2_with fail
                go_roundw
                case rel => exact ⟨k + 1, by omega, by go_num, h5⟩
                case measure => simp [intOf]; omega
              · go_wp2_with fail
                go_ret
                exact h5
            · obtain rfl : k = l.length := by omega
              have hj := hI.js
              have hk2 := hI.ok
              have hkb := hI.kb
              rw [← areaL_length, List.take_of_length_le (Nat.le_refl _)] at hj hk2
              have hfin : WkPost w0 X p jb N B fr n g r s (wrsO (fr + 1) (areaL l)) W (.returned (.int .i64 0)) wr := RcI.over HH.out (fun _ h => .inl (.inl h)) (by omega) HB3.out hj hkb _ (by rw [errO, if_pos hk2])
              have HF := Lib.hid hfin
              clear hj hk2 hkb hfin hI
              go_wp2_with fail
              go_ret
              exact HF.out
end
end Go.Proofs.YtjjphcnoegaimaaGreat

namespace Go.Proofs.YtjjphcnoegaimaaGreat
open Go.RowKit Go.Shelf Go.Maps
set_option maxRecDepth 20000

/-- What run leaves. -/
def RunPost (Yes No : World → Prop) (e : Ending) (W : World) : Prop := (e = .returned (.int .i64 0) ∧ Yes W) ∨ (e = .returned (.int .i64 30) ∧ No W)
set_option maxHeartbeats 2000000 in
theorem run_any {w : World} (rb cap n : Nat) (id : Nat → Nat) (ad : Nat → Nat) (St : Nat → World → Prop) (No : World → Prop) (hn : n ≤ 1000)
    (hid : ∀ k, k < n → id k = 77 ∨ id k = 78 ∨ id k = 79 ∨ id k = 80 ∨ id k = 81)
    (hcell : ∀ k W, k < n → St k W → W.cell? ⟨rb, k, none⟩ = some (.func (.func (id k)) #[.pointer (some ⟨ad k, 0, none⟩)] #[]))
    (hcall : ∀ k W, k < n → St k W → Calls Tryz.prog (id k) #[.pointer (some ⟨ad k, 0, none⟩)] W (RunPost (St (k + 1)) No)) (h0 : St 0 w) :
    Calls Tryz.prog 76 #[.slice (some ⟨rb, 0, none⟩) n cap] w (RunPost (St n) No) := by
  have HC := Lib.hid hcell
  have HK := Lib.hid hcall
  clear hcell hcall
  go_enter Tryz.func76, Tryz.ntmps76
  go_wp2_with fail
  go_step3
  go_wp2_with fail
  go_step3
  go_wp2_with fail
  go_loopw [2, 4, 7] (fun v2 _ v7 wr => ∃ k : Nat, k ≤ n ∧ v7 = .int .i64 k ∧ v2 = .int .i64 0 ∧ St k wr) (fun _ _ v7 _ => n - (intOf v7).toNat)
  case atStart => exact ⟨0, Nat.zero_le _, rfl, rfl, h0⟩
  case round =>
    obtain ⟨k, hk, rfl, rfl, hS⟩ := hrel
    by_cases hlt : k < n
    · have c0 := HC.out k wr hlt hS
      have hcl := Lib.hid (HK.out k wr hlt hS)
      have hf := hid k hlt
      generalize id k = f at *
      rcases hf with rfl | rfl | rfl | rfl | rfl
      all_goals
        go_wp2_with fail
        refine hcl.out.mono ?_
        rintro e w1 (⟨rfl, h1⟩ | ⟨rfl, h1⟩)
        · go_wp2_with fail
          go_roundw
          case rel => exact ⟨k + 1, by omega, by go_num, rfl, h1⟩
          case measure => simp [intOf]; omega
        · go_wp2_with fail
          rw [Exit.noGoto_ret]
          go_ret
          exact .inr ⟨rfl, h1⟩
    · obtain rfl : k = n := by omega
      go_wp2_with fail
      rw [Exit.noGoto_ret]
      go_ret
      exact .inl ⟨rfl, hS⟩
end Go.Proofs.YtjjphcnoegaimaaGreat
