/- package dev: Crash. package dev: New. -/
import Derived.Test.YtjjphcnoegaimaaGreatGD
namespace Go.Proofs.YtjjphcnoegaimaaGreat
open Go.RowKit Go.Shelf Go.Maps
attribute [local go_sem] Oper.semAt_some
attribute [local go_sem ↓] field_row
set_option maxRecDepth 20000

/-- A device's sector in a crash: the k-th one with cached writes. -/
def crash1 (keep : ByteArray) (k : Nat) (s : DS) (i : Nat) : DS :=
  let s1 := if k < keep.size then keepS s i ((keep.data.getD k 0).toNat % ((s.rows i).length + 1)) else s
  { s1 with rows := setR s1.rows i [] }
def crashL {n : Nat} (keep : ByteArray) : Nat → DS → List (Fin n) → DS
  | _, s, [] => s
  | k, s, i :: l => crashL keep (k + 1) (crash1 keep k s i.1) l
/-- A device behind a crash. -/
def crashS (keep : ByteArray) (s : DS) : DS := { crashL keep 0 s (looseF s) with armed := false, left := 0, dead := false }
theorem crashL_snoc {n : Nat} (keep : ByteArray) (l : List (Fin n)) (i : Fin n) : ∀ (k : Nat) (s : DS), crashL keep k s (l ++ [i]) = crash1 keep (k + l.length) (crashL keep k s l) i.1 := by
  induction l with
  | nil => intro k s; rfl
  | cons a l ih =>
    intro k s
    rw [List.cons_append, crashL, ih, crashL, List.length_cons]
    congr 1
    omega
theorem crash1_hard (keep : ByteArray) (k : Nat) (s : DS) (i : Nat) : (crash1 keep k s i).hard.length = s.hard.length := by
  unfold crash1 keepS
  dsimp only
  split <;> try rfl
  split <;> simp
theorem crash1_rows (keep : ByteArray) (k : Nat) (s : DS) (i : Nat) (j : Int) : ((crash1 keep k s i).rows j).length ≤ (s.rows j).length := by
  unfold crash1
  dsimp only
  by_cases h : j = i
  · subst h
    simp [setR_same]
  · rw [setR_other _ _ h]
    split
    · exact keepS_rows _ _ _ _
    · exact Nat.le_refl _
theorem crashL_hard {n : Nat} (keep : ByteArray) (l : List (Fin n)) : ∀ (k : Nat) (s : DS), (crashL keep k s l).hard.length = s.hard.length := by
  induction l with
  | nil => intro k s; rfl
  | cons i l ih => intro k s; rw [crashL, ih, crash1_hard]
theorem crashL_rows {n : Nat} (keep : ByteArray) (l : List (Fin n)) : ∀ (k : Nat) (s : DS) (j : Int), ((crashL keep k s l).rows j).length ≤ (s.rows j).length := by
  induction l with
  | nil => intro k s j; exact Nat.le_refl _
  | cons i l ih => intro k s j; rw [crashL]; exact Nat.le_trans (ih _ _ j) (crash1_rows _ _ _ _ _)

section
variable {w : World} {p : Nat} {F : Nat → Prop} {s : DS}
/-- A sector's cached writes are struck. -/
theorem dev_delete {W : World} {hb hc m : Nat} {L : List (Int × Value)} (h : DevAt W p hb hc m L s) (i : Int) : ∃ W', (Builtin.delete_ #[114, 3] 0 #[.map (some m), .int .i64 i]).run Tryz.prog W = .ok (.tuple #[]) W' ∧ DvS W p (dfoot p hb m L) { s with rows := setR s.rows i [] } W' := by
  obtain ⟨w2, hr2, hm2, hg2⟩ := h.map.del (P := Tryz.prog) (t := 114) Tryz.underlying114 Tryz.underlying3 i #[114, 3] rfl 0
  exact ⟨w2, hr2, DvS.of h (h.del i hm2 (fun k hk hkm => hg2.block k hk (by simpa using hkm))) (fun k hk => .inl (dfoot_del h.map.nodup hk)) ((Fr.refl _ W).grown hg2 (fun k e => by cases e; exact .inr (.inr (.inr (.inl rfl)))))⟩

/-- What holds between two rounds of a crash. -/
structure CrI (w : World) (p m n1 : Nat) (F : Nat → Prop) (keep : ByteArray) (s : DS) (k : Int) (W : World) : Prop where
  dev : Dv W p (fun k => F k ∨ n1 ≤ k) s
  fr : Fr F w W
  map : W.cell? ⟨p, 4, none⟩ = some (.map (some m))
  box : W.heap[w.heap.size]? = some (.cells #[.pointer (some ⟨p, 0, none⟩)] 25 (0, 0))
  kbox : W.heap[w.heap.size + 1]? = some (.cells #[.string keep] 9 (0, 0))
  abox : W.heap[w.heap.size + 1 + 1]? = some (.cells #[.int .i64 k] 3 (0, 0))
theorem CrI.own {m n1 B : Nat} {keep : ByteArray} {k : Int} {W W' : World} (h : CrI w p m n1 F keep s k W) (hmB : m < B) (hwB : w.heap.size ≤ B) {row : Option Nat} (hg : W.grownBy W' row) (hr : ∀ r, row = some r → B ≤ r ∧ ∃ o : Obj, W.heap[r]? = some o ∧ o.isCells = false) : CrI w p m n1 F keep s k W' := by
  have hp : some p ≠ row := by
    intro e
    obtain ⟨h1, o, h2, h3⟩ := hr p e.symm
    have := h.map
    simp only [World.cell?, h2] at this
    cases o <;> simp_all [Obj.isCells]
  have hpl : p < W.heap.size := by
    obtain ⟨hb, hc, L, h, -⟩ := h.dev.map_same h.map
    exact blk_lt h.obj
  have hx : ∀ (b : Nat) (cs : Array Value) (t : TypeId) (fz : Nat × Nat), W.heap[b]? = some (Obj.cells cs t fz) → W'.heap[b]? = some (Obj.cells cs t fz) := fun b cs t fz hb => (hg.block b (blk_lt hb) (fun e => by
    obtain ⟨h1, o, h2, h3⟩ := hr b e.symm
    rw [hb] at h2
    cases h2
    cases h3)).trans hb
  exact ⟨h.dev.own h.map hmB hg hr, h.fr.grown hg (fun k e => .inl (Nat.le_trans hwB (hr k e).1)), (hg.cell_far ⟨p, 4, none⟩ hpl hp).trans h.map, hx _ _ _ _ h.box, hx _ _ _ _ h.kbox, hx _ _ _ _ h.abox⟩
theorem CrI.step {m n1 B A : Nat} {keep : ByteArray} {k : Int} {s' : DS} {W W' : World} (h : CrI w p m n1 F keep s k W) (hF : ∀ b, F b → b < w.heap.size) (hn1 : w.heap.size + 3 ≤ n1) (hnW : n1 ≤ W.heap.size) (hmB : m < B) {hb hc : Nat} {L : List (Int × Value)} (hd : DevAt W p hb hc m L s) (hf : ∀ k, dfoot p hb m L k → F k ∨ n1 ≤ k) (hs : DvS W p (dfoot p hb m L) s' W') : CrI w p m n1 F keep s' k W' ∧ KeepsFrom B W W' ∧ KpI A W W' := by
  have hx : ∀ b, w.heap.size ≤ b → b < n1 → W'.heap[b]? = W.heap[b]? := fun b h1 h2 => hs.2.1.block b (by omega) (fun hk => by
    rcases hf b hk with e | e
    · have := hF b e; omega
    · omega)
  refine ⟨⟨hs.1.weak (fun k hk => ?_), ?_, hs.2.2.trans h.map, (hx _ (Nat.le_refl _) (by omega)).trans h.box, (hx _ (by omega) (by omega)).trans h.kbox, (hx _ (by omega) (by omega)).trans h.abox⟩, hs.owes hd hmB⟩
  · rcases hk with hk | hk
    · exact hf k hk
    · exact .inr (by omega)
  · have h1 := h.fr
    have h2 := hs.2.1
    exact ⟨h2.os.trans h1.os, h2.tape.trans h1.tape, h2.output.trans h1.output, Nat.le_trans h1.size h2.size, fun k hk hn => (h2.block k (Nat.lt_of_lt_of_le hk h1.size) (fun hd => by
      rcases hf k hd with e | e
      · exact hn e
      · omega)).trans (h1.block k hk hn)⟩
theorem CrI.count {m n1 B : Nat} {keep : ByteArray} {k : Int} {W : World} (h : CrI w p m n1 F keep s k W) (hF : ∀ b, F b → b < w.heap.size) (hn1 : w.heap.size + 3 ≤ n1) (j : Int) :
    CrI w p m n1 F keep s j (W.setCell ⟨w.heap.size + 1 + 1, 0, none⟩ (.int .i64 j)) ∧ KeepsFrom B W (W.setCell ⟨w.heap.size + 1 + 1, 0, none⟩ (.int .i64 j)) ∧ KpI (w.heap.size + 1 + 1) W (W.setCell ⟨w.heap.size + 1 + 1, 0, none⟩ (.int .i64 j)) := by
  have hx : ∀ b, b ≠ w.heap.size + 1 + 1 → (W.setCell ⟨w.heap.size + 1 + 1, 0, none⟩ (.int .i64 j)).heap[b]? = W.heap[b]? := fun b hb => Below.heap_setCell W _ _ b (by simpa using hb)
  refine ⟨⟨?_, h.fr.setCell _ (.inl (by show w.heap.size ≤ w.heap.size + 1 + 1; omega)) _, ?_, (hx _ (by omega)).trans h.box, (hx _ (by omega)).trans h.kbox, ?_⟩, ⟨by simp [World.setCell], fun b o hb ho hc => ?_⟩, fun b cs hb ho => (hx b hb).trans ho⟩
  · obtain ⟨hb, hc, m, L, hd, hf⟩ := h.dev
    refine ⟨hb, hc, m, L, hd.keep (fun k hk => hx k (fun e => ?_)), hf⟩
    rcases hf k hk with e' | e'
    · have := hF k e'; omega
    · omega
  · refine (World.cell?_of_block (hx p ?_)).trans h.map
    intro e
    obtain ⟨hb, hc, m, L, hd, hf⟩ := h.dev
    rcases hf p (.inl rfl) with e' | e'
    · have := hF p e'; omega
    · omega
  · rw [blk_here h.abox 0 (.int .i64 j)]
    rfl
  · by_cases e : b = w.heap.size + 1 + 1
    · subst e
      rw [h.abox] at ho
      cases ho
      cases hc
    · exact (hx b e).trans ho

set_option maxRecDepth 100000 in
set_option maxHeartbeats 4000000 in
theorem dev_crash (h : Dv w p F s) (keep : ByteArray) (hrw : ∀ j, (s.rows j).length ≤ 100000) : Calls Tryz.prog 21 #[.pointer (some ⟨p, 0, none⟩), .string keep] w fun e w' => e = .returned (.int .i64 0) ∧ DvS w p F (crashS keep s) w' := by
  obtain ⟨hb, hc, m, L, h, hF⟩ := h
  suffices H : Calls Tryz.prog 21 #[.pointer (some ⟨p, 0, none⟩), .string keep] w fun e w' => e = .returned (.int .i64 0) ∧ DvS w p (dfoot p hb m L) (crashS keep s) w' by
    exact H.mono (fun e w' ⟨h1, h2⟩ => ⟨h1, h2.weak hF⟩)
  have hlt : ∀ k, dfoot p hb m L k → k < w.heap.size := fun k hk => h.lt hk
  clear hF
  have hD : Dv w p (dfoot p hb m L) s := ⟨hb, hc, m, L, h, fun _ hk => hk⟩
  have hm4 : w.cell? ⟨p, 4, none⟩ = some (.map (some m)) := cl_of h.obj 4
  have hml : m < w.heap.size := hlt m (.inr (.inr (.inl rfl)))
  have hlen : (looseF s).length ≤ 4096 := by
    have := h.pos
    refine Nat.le_trans (List.length_filter_le _ _) ?_
    simp
    omega
  refine (callsIn_wide (n := 9)).1 (callsIn_of_wp_marks Tryz.func21 rfl trivial ?_ rfl)
  refine wpIn_wide.2 ?_
  simp only [Tryz.ntmps21, List.size_toArray, List.length_cons, List.length_nil, Nat.reduceAdd, Nat.reduceSub, Array.replicate_succ, Array.replicate_zero, List.push_toArray, List.append_toArray, List.nil_append, List.cons_append]
  go_wp2_with fail
  obtain ⟨W0, hW0⟩ : ∃ W0, ((w.alloc (.cells #[.pointer (some ⟨p, 0, none⟩)] 25)).alloc (.cells #[.string keep] 9)).alloc (.cells #[.int .i64 0] 3) = W0 := ⟨_, rfl⟩
  rw [hW0]
  have B0 : Below w.heap.size w W0 := by rw [← hW0]; exact bal (bal (bnew _ _) _) _
  have hs0 : W0.heap.size = w.heap.size + 3 := by rw [← hW0]; simp
  have HS0 := Lib.hid hs0
  clear hs0
  have b0 : W0.heap[w.heap.size]? = some (.cells #[.pointer (some ⟨p, 0, none⟩)] 25 (0, 0)) := by rw [← hW0]; exact blk_old (blk_old (hp_new _ _ rfl) _) _
  have b1 : W0.heap[w.heap.size + 1]? = some (.cells #[.string keep] 9 (0, 0)) := by rw [← hW0]; exact blk_old (hp_new _ _ (by simp)) _
  have b2 : W0.heap[w.heap.size + 1 + 1]? = some (.cells #[.int .i64 0] 3 (0, 0)) := by rw [← hW0]; exact hp_new _ _ (by simp)
  clear hW0
  refine (dev_looser p W0).mono ?_
  rintro e w1 ⟨rfl, hw1⟩
  have B1 : Below W0.heap.size W0 w1 := by rw [← hw1]; exact bnew _ _
  have hb1 : w1.heap[W0.heap.size]? = some (.cells #[.pointer (some ⟨p, 0, none⟩)] 25 (0, 0)) := by rw [← hw1]; exact hp_new _ _ rfl
  clear hw1
  go_wp2_with fail
  have hbb := bt B0 B1
  have hW : CrI w p m w1.heap.size (dfoot p hb m L) keep s 0 w1 :=
    ⟨(hD.weak (fun _ hk => .inl hk)).below hbb, Fr.of_below hbb, (hbb.cell (p := ⟨p, 4, none⟩) (hlt p (.inl rfl))).trans hm4, (B1.block _ (blk_lt b0)).trans b0, (B1.block _ (blk_lt b1)).trans b1, (B1.block _ (blk_lt b2)).trans b2⟩
  have hn1 : w.heap.size + 3 ≤ w1.heap.size := by have := B1.size; have := HS0.out; omega
  have hmB : m < w1.heap.size := by omega
  have hwB := hbb.size
  have hseq := loose_stops (fun i : Fin s.hard.length => (i.1 : Int)) 8 W0.heap.size (by decide) (looseF s) (looseF_val s) (KpI (w.heap.size + 1 + 1)) (QI (w.heap.size + 1 + 1)) (KpI.q (A := w.heap.size + 1 + 1)) w1 (hD.below hbb) hb1
    (fun W' g cur hB hg hc => ⟨by omega, cur, hc⟩)
  have hdl : s.hard.length ≤ 4096 := h.pos.2
  have HD := Lib.hid hD
  have HS := Lib.hid hseq
  have HR := Lib.hid hrw
  have HLN := Lib.hid hlen
  have HLT := Lib.hid hlt
  have hp4 : p < w.heap.size := hlt p (.inl rfl)
  have hs0l : W0.heap.size < w1.heap.size := blk_lt hb1
  clear hD hseq hrw hlen h b0 b1 b2 hb1 hlt hbb
  refine (wpIn_wide (n := 9)).1 ?_
  refine wpIn_rangeFunc_ownG rfl (by omega) (gf := 82) (lb := #[.pointer (some ⟨W0.heap.size, 0, none⟩)]) rfl trivial (fun _ _ => by rfl)
    HS.out KpI.t KpI.b (Below.refl _ _) (fun _ => rfl)
    (fun pre W => CrI w p m w1.heap.size (dfoot p hb m L) keep (crashL keep 0 s pre) (pre.length : Int) W ∧ w1.heap.size ≤ W.heap.size)
    (fun _ _ _ => False)
    (fun pre W W' row hi hg hr => ⟨hi.1.own hmB hwB hg hr, Nat.le_trans hi.2 hg.size⟩)
    (fun _ _ _ _ _ hs _ _ => hs)
    ⟨hW, Nat.le_refl _⟩
    (fun x => { tmps := #[.pointer (some ⟨p, 0, none⟩), .string keep, .pointer (some ⟨w.heap.size, 0, none⟩), .pointer (some ⟨w.heap.size + 1, 0, none⟩), .int .i64 0, .pointer (some ⟨w.heap.size + 1 + 1, 0, none⟩), .int .i64 x.1, undef, .pointer (some ⟨p, 0, none⟩), .bool false, .pointer (some ⟨p, 0, none⟩), .func (.func 82) #[] #[.pointer (some ⟨W0.heap.size, 0, none⟩)], .int .i64 x.1, undef, undef, undef, undef, undef, undef, undef, undef, undef, undef, undef, undef, undef, undef, undef, undef, undef, undef, undef, undef, undef, undef, undef, undef, undef, undef, undef, undef, undef, undef, undef, undef, undef], defers := [] }) ?assign ?body ?done ?stop
  case assign =>
    intro l x W K hK
    gi_wp2
    exact hK
  case body =>
    rintro l pre x W ⟨hI, hIs⟩ hpre
    obtain ⟨hb', hc', L', hd', hf'⟩ := hI.dev.map_same hI.map
    have q0 : W.cell? ⟨w.heap.size, 0, none⟩ = some (.pointer (some ⟨p, 0, none⟩)) := cl_of hI.box 0
    have q1 : W.cell? ⟨w.heap.size + 1, 0, none⟩ = some (.string keep) := cl_of hI.kbox 0
    have q2 : W.cell? ⟨w.heap.size + 1 + 1, 0, none⟩ = some (.int .i64 (pre.length : Int)) := cl_of hI.abox 0
    have f2 := fz_of hI.abox 0
    have hm4 := hI.map
    have hxl : x.1 < (crashL keep 0 s pre).hard.length := by rw [crashL_hard]; exact x.2
    have hrl : ((crashL keep 0 s pre).rows x.1).length ≤ 100000 := Nat.le_trans (crashL_rows keep pre 0 s _) (HR.out _)
    have hpl : pre.length < 4096 := Nat.lt_of_lt_of_le hpre HLN.out
    have hlk : ∃ a c, (Instr.lookup 114 (.map (some m)) (.int .i64 x.1) false).run Tryz.prog W = .ok (.agg #[.slice a ((crashL keep 0 s pre).rows x.1).length c]) W := by
      obtain ⟨v, hro, hrow, -⟩ := hd'.row x.1
      have := hd'.look x.1
      rw [hro] at this
      rcases hrow.2 with ⟨e, e2⟩ | ⟨g, c, cur, e, _⟩
      · exact ⟨none, 0, by rw [this, e, e2]⟩
      · exact ⟨_, c, by rw [this, e]⟩
    obtain ⟨a, c, hlk⟩ := hlk
    have hsn := crashL_snoc keep pre x 0 s
    rw [Nat.zero_add] at hsn
    have HSN := Lib.hid hsn
    have hcount : ∀ (s2 : DS) (W2 : World), CrI w p m w1.heap.size (dfoot p hb m L) keep s2 (pre.length : Int) W2 → w1.heap.size ≤ W2.heap.size →
        ∃ W3, (Builtin.delete_ #[114, 3] 0 #[.map (some m), .int .i64 x.1]).run Tryz.prog (W2.setCell ⟨w.heap.size + 1 + 1, 0, none⟩ (.int .i64 ((pre.length : Int) + 1))) = .ok (.tuple #[]) W3 ∧ CrI w p m w1.heap.size (dfoot p hb m L) keep { s2 with rows := setR s2.rows x.1 [] } ((pre ++ [x]).length : Int) W3 ∧ KeepsFrom w1.heap.size W2 W3 ∧ KpI (w.heap.size + 1 + 1) W2 W3 ∧ w1.heap.size ≤ W3.heap.size ∧ (W2.setCell ⟨w.heap.size + 1 + 1, 0, none⟩ (.int .i64 ((pre.length : Int) + 1))).cell? ⟨p, 4, none⟩ = some (.map (some m)) ∧ (W2.setCell ⟨w.heap.size + 1 + 1, 0, none⟩ (.int .i64 ((pre.length : Int) + 1))).cell? ⟨w.heap.size, 0, none⟩ = some (.pointer (some ⟨p, 0, none⟩)) := by
      intro s2 W2 h2 hs2
      obtain ⟨c1, c2, c3⟩ := h2.count (B := w1.heap.size) HLT.out hn1 ((pre.length : Int) + 1)
      obtain ⟨hb2, hc2, L2, hd2, hf2⟩ := c1.dev.map_same c1.map
      obtain ⟨W3, r1, r2⟩ := dev_delete hd2 (x.1 : Int)
      obtain ⟨d1, d2, d3⟩ := c1.step (B := w1.heap.size) (A := w.heap.size + 1 + 1) HLT.out hn1 (by simpa [World.setCell] using hs2) hmB hd2 hf2 r2
      refine ⟨W3, r1, by simpa using d1, c2.trans d2, c3.t d3, Nat.le_trans hs2 (c2.trans d2).size, c1.map, cl_of c1.box 0⟩
    have HC := Lib.hid hcount
    have HI := Lib.hid hI
    clear hsn hI hd' hf' hcount
    have HIx : Hid (crash1 keep pre.length (crashL keep 0 s pre) x.1 = { (if pre.length < keep.size then keepS (crashL keep 0 s pre) x.1 ((keep.data.getD pre.length 0).toNat % (((crashL keep 0 s pre).rows x.1).length + 1)) else crashL keep 0 s pre) with rows := setR (if pre.length < keep.size then keepS (crashL keep 0 s pre) x.1 ((keep.data.getD pre.length 0).toNat % (((crashL keep 0 s pre).rows x.1).length + 1)) else crashL keep 0 s pre).rows x.1 [] }) := rfl
    generalize hs1 : crashL keep 0 s pre = s1 at *
    clear hs1
    have mo : Tryz.prog.follows Departure.mixedOrders = true := by kernel_rfl
    by_cases hk : pre.length < keep.size
    · have HIx2 : Hid (crash1 keep pre.length s1 x.1 = { keepS s1 x.1 ((keep.data.getD pre.length 0).toNat % ((s1.rows x.1).length + 1)) with rows := setR (keepS s1 x.1 ((keep.data.getD pre.length 0).toNat % ((s1.rows x.1).length + 1))).rows x.1 [] }) := by
        have := HIx.out
        rw [if_pos hk] at this
        exact this
      clear HIx
      obtain ⟨bb, hbb⟩ : ∃ bb, keep[pre.length].toNat = bb := ⟨_, rfl⟩
      have hbl : bb < 256 := by rw [← hbb]; exact keep[pre.length].toNat_lt
      have hgd : (keep.data.getD pre.length 0).toNat = bb := by
        rw [← hbb]
        have hk' : pre.length < keep.data.size := hk
        simp only [Array.getD_eq_getD_getElem?, Array.getElem?_eq_getElem hk', Option.getD_some]
        rfl
      rw [hgd] at HIx2
      have w1' : IntKind.i64.wrap (((s1.rows x.1).length : Int) + 1) = ((s1.rows x.1).length : Int) + 1 := IntWalk.i64_in _ (by omega)
      have w2' : IntKind.i64.wrap (bb : Int) = (bb : Int) := IntWalk.i64_in _ (by omega)
      have w6' : ¬ (((s1.rows x.1).length : Int) + 1 = 0) := by omega
      have w4' : (bb : Int) % (((s1.rows x.1).length : Int) + 1) = ((bb % ((s1.rows x.1).length + 1) : Nat) : Int) := by
        push_cast
        rfl
      have W4 := Lib.hid w4'
      clear w4'
      have hkl : bb % ((s1.rows x.1).length + 1) ≤ (s1.rows x.1).length := by have := Nat.mod_lt bb (show 0 < (s1.rows x.1).length + 1 by omega); omega
      clear hgd
      have hkk : Calls Tryz.prog 51 #[.pointer (some ⟨p, 0, none⟩), .int .i64 x.1, .int .i64 ((bb : Int) % (((s1.rows x.1).length : Int) + 1))] W.drew fun e w' => e = .returned (.tuple #[]) ∧ CrI w p m w1.heap.size (dfoot p hb m L) keep (keepS s1 x.1 (bb % ((s1.rows x.1).length + 1))) (pre.length : Int) w' ∧ KeepsFrom w1.heap.size W w' ∧ KpI (w.heap.size + 1 + 1) W w' ∧ w1.heap.size ≤ w'.heap.size := by
        rw [W4.out]
        have hId := HI.out.own hmB hwB (row := none) (W' := W.drew) ⟨rfl, rfl, rfl, Nat.le_refl _, fun _ _ _ => rfl⟩ (fun r e => by cases e)
        obtain ⟨hb2, hc2, L2, hd2, hf2⟩ := hId.dev.map_same hId.map
        refine (dev_keep (F := dfoot p hb2 m L2) ⟨hb2, hc2, m, L2, hd2, fun _ hk => hk⟩ x.1 _ hxl hkl hrl).mono ?_
        rintro e w' ⟨rfl, hs⟩
        obtain ⟨d1, d2, d3⟩ := hId.step (B := w1.heap.size) (A := w.heap.size + 1 + 1) HLT.out hn1 hIs hmB hd2 hf2 hs
        exact ⟨rfl, d1, ⟨d2.size, d2.same⟩, d3, Nat.le_trans hIs d2.size⟩
      have HKK := Lib.hid hkk
      clear hkk
      gi_wp2
      refine wpIn_region_still_tail_round 9 mo (by kernel_rfl) (by kernel_rfl) (by rintro ⟨_, _, h⟩; exact h) ?_
      simp only [List.take_succ_cons, List.take_zero, List.drop_succ_cons, List.drop_zero]
      repeat still_step
      refine wpStill_nil ?_
      go_wp2_with fail
      refine HKK.out.mono ?_
      rintro e W2 ⟨rfl, hI2, hk2, hp2, hs2⟩
      have g2 : W2.cell? ⟨w.heap.size + 1 + 1, 0, none⟩ = some (.int .i64 (pre.length : Int)) := cl_of hI2.abox 0
      have gf2 := fz_of hI2.abox 0
      obtain ⟨W3, r1, r2, r3, r4, r5, r6, r7⟩ := HC.out _ W2 hI2 hs2
      have HR2 := Lib.hid r2
      have HI2 := Lib.hid hI2
      clear r2 hI2
      go_wp2_with fail
      gi_wp2
      refine ⟨hk2.trans r3, hp2.t r4, ?_⟩
      show CrI w p m w1.heap.size (dfoot p hb m L) keep (crashL keep 0 s (pre ++ [x])) ((pre ++ [x]).length : Int) W3 ∧ _
      rw [HSN.out, HIx2.out]
      exact ⟨HR2.out, r5⟩
    · have HIx2 : Hid (crash1 keep pre.length s1 x.1 = { s1 with rows := setR s1.rows x.1 [] }) := by
        have := HIx.out
        rw [if_neg hk] at this
        exact this
      clear HIx
      obtain ⟨W3, r1, r2, r3, r4, r5, r6, r7⟩ := HC.out s1 W HI.out hIs
      have HR2 := Lib.hid r2
      clear r2
      gi_wp2
      refine ⟨r3, r4, ?_⟩
      show CrI w p m w1.heap.size (dfoot p hb m L) keep (crashL keep 0 s (pre ++ [x])) ((pre ++ [x]).length : Int) W3 ∧ _
      rw [HSN.out, HIx2.out]
      exact ⟨HR2.out, r5⟩
  case done =>
    rintro D ys W hD rfl ⟨hI, _⟩ hK
    obtain ⟨hb2, hc2, L2, hd2, hf2⟩ := hI.dev.map_same hI.map
    have q0 : W.cell? ⟨w.heap.size, 0, none⟩ = some (.pointer (some ⟨p, 0, none⟩)) := cl_of hI.box 0
    have g0 : W.cell? ⟨p, 0, none⟩ = some (.bool (crashL keep 0 s (looseF s)).armed) := cl_of hd2.obj 0
    have g1 : W.cell? ⟨p, 1, none⟩ = some (.int .i64 (crashL keep 0 s (looseF s)).left) := cl_of hd2.obj 1
    have g2 : W.cell? ⟨p, 2, none⟩ = some (.bool (crashL keep 0 s (looseF s)).dead) := cl_of hd2.obj 2
    have k0 := fz_of hd2.obj 0
    have k1 := fz_of hd2.obj 1
    have k2 := fz_of hd2.obj 2
    have HI := Lib.hid hI
    have HD2 := Lib.hid hd2
    have HF2 := Lib.hid hf2
    clear hI hd2 hf2
    have hDp : D ≠ p := by omega
    have hd3 : DevAt (((W.setCell ⟨p, 0, none⟩ (.bool false)).setCell ⟨p, 1, none⟩ (.int .i64 0)).setCell ⟨p, 2, none⟩ (.bool false)) p hb2 hc2 m L2 (crashS keep s) :=
      HD2.out.obj' (a := false) (n := 0) (d := false) (wr := (crashL keep 0 s (looseF s)).writes) (blk_here (blk_here (blk_here HD2.out.obj 0 (.bool false)) 1 (.int .i64 0)) 2 (.bool false)) (fun k hk hkp => ((Below.heap_setCell _ _ _ k (by simpa using hkp)).trans (Below.heap_setCell _ _ _ k (by simpa using hkp))).trans (Below.heap_setCell W _ _ k (by simpa using hkp)))
    have hK3 : (((W.setCell ⟨p, 0, none⟩ (.bool false)).setCell ⟨p, 1, none⟩ (.int .i64 0)).setCell ⟨p, 2, none⟩ (.bool false)).heap[D]? = some (.deferred (some [])) :=
      ((Below.heap_setCell _ _ _ D (by simpa using hDp)).trans ((Below.heap_setCell _ _ _ D (by simpa using hDp)).trans (Below.heap_setCell W _ _ D (by simpa using hDp)))).trans hK
    have hf3 : Fr (dfoot p hb m L) w (((W.setCell ⟨p, 0, none⟩ (.bool false)).setCell ⟨p, 1, none⟩ (.int .i64 0)).setCell ⟨p, 2, none⟩ (.bool false)) :=
      ((HI.out.fr.setCell ⟨p, 0, none⟩ (.inr (.inl rfl)) _).setCell ⟨p, 1, none⟩ (.inr (.inl rfl)) _).setCell ⟨p, 2, none⟩ (.inr (.inl rfl)) _
    have hDv : Dv (((W.setCell ⟨p, 0, none⟩ (.bool false)).setCell ⟨p, 1, none⟩ (.int .i64 0)).setCell ⟨p, 2, none⟩ (.bool false)) p (fun k => dfoot p hb m L k ∨ w1.heap.size ≤ k) (crashS keep s) := ⟨hb2, hc2, m, L2, hd3, HF2.out⟩
    have m3 := cl_of hd3.obj 4
    have hfin := hDv.own (W' := (((W.setCell ⟨p, 0, none⟩ (.bool false)).setCell ⟨p, 1, none⟩ (.int .i64 0)).setCell ⟨p, 2, none⟩ (.bool false)).putObj D (.deferred none)) (row := some D) m3 hmB (grownBy_putObj' _ D (.deferred none)) (fun r e => by cases e; exact ⟨hD, _, hK3, rfl⟩)
    have hff := hf3.grown (grownBy_putObj' _ D (.deferred none)) (fun k e => by cases e; exact .inl (by omega))
    have m4 := hfin.map_same (m := m)
    have HV := Lib.hid hfin
    have HFF := Lib.hid hff
    have HM3 : Hid _ := Lib.hid ((World.cell?_of_block (a := ⟨p, 4, none⟩) (World.putObj_heap_other (w := (((W.setCell ⟨p, 0, none⟩ (.bool false)).setCell ⟨p, 1, none⟩ (.int .i64 0)).setCell ⟨p, 2, none⟩ (.bool false))) (o := Obj.deferred none) (show p ≠ D from fun e => hDp e.symm))).trans (m3.trans hm4.symm))
    have HK3 := Lib.hid hK3
    clear hd3 hDv m3 hfin hff hf3 m4 hK3
    go_wp2
    refine ⟨by simp, .inl ⟨_, _, rfl, run_takeDeferred HK3.out, ?_⟩⟩
    exact ⟨_, results_tmp rfl _ _ _, rfl, HV.out.weak (fun k hk => hk.imp id (fun h => Nat.le_trans hwB h)), HFF.out, HM3.out⟩
  case stop =>
    rintro D c pre W _ _ h _
    exact h.elim
end
end Go.Proofs.YtjjphcnoegaimaaGreat

namespace Go.Proofs.YtjjphcnoegaimaaGreat
open Go.RowKit Go.Shelf Go.Maps
set_option maxRecDepth 20000

/-- A sector of noughts. -/
def zsec : ByteArray := ⟨(List.replicate 64 (0 : UInt8)).toArray⟩
theorem repeat_zero (c : Nat) : Lib.repeatL [(0 : UInt8)] c = List.replicate c 0 := by
  induction c with
  | zero => rfl
  | succ c ih => rw [Lib.repeatL, ih]; rfl
/-- A new device. -/
def newS (n : Nat) : DS := { armed := false, left := 0, dead := false, hard := List.replicate n zsec, rows := fun _ => [], writes := 0 }

set_option maxHeartbeats 400000 in
theorem new_no (n : Int) (h : n < 8 ∨ 4096 < n) (w : World) : Calls Tryz.prog 42 #[.int .i64 n] w fun e w' => e = .returned (.tuple #[.pointer none, .int .i64 2]) ∧ w = w' := by
  by_cases h8 : n < 8
  · go_enter Tryz.func42, Tryz.ntmps42
    go_wp2_with fail
    go_ret2
    exact ⟨rfl, rfl⟩
  · have d1 : decide (n < 8) = false := decide_eq_false h8
    have d2 : decide (n > 4096) = true := decide_eq_true (by omega)
    go_enter Tryz.func42, Tryz.ntmps42
    go_wp2_with fail
    go_ret2
    exact ⟨rfl, rfl⟩

/-- What holds in the loop. -/
structure NwI (w : World) (v : Value) (k : Nat) (W : World) : Prop where
  obj : W.heap[w.heap.size + 1]? = some (.cells #[.bool false, .int .i64 0, .bool false, v, .map (some w.heap.size), .int .u64 0] 116 (0, 0))
  row : W.ownsRow (w.heap.size + 2) 9 1 v k (sv (List.replicate k zsec))
  map : MapS W w.heap.size .i64 []
  below : Below w.heap.size w W
theorem NwI.step {w W W1 : World} {v v' : Value} {k : Nat} (h : NwI w v k W) (hg : W.grownBy W1 v.ownBlock) (hown : W1.ownsRow (w.heap.size + 2) 9 1 v' (k + 1) (sv (List.replicate k zsec) ++ [Value.string zsec])) : NwI w v' (k + 1) (W1.setCell ⟨w.heap.size + 1, 3, none⟩ v') := by
  have hvb : ∀ g, v.ownBlock = some g → w.heap.size + 2 ≤ g := by
    intro g e
    rcases h.row.2 with ⟨rfl, _⟩ | ⟨g', c, cur, rfl, h0, _⟩
    · cases e
    · cases e; exact h0
  have hvb' : ∀ g, v'.ownBlock = some g → w.heap.size + 2 ≤ g := by
    intro g e
    rcases hown.2 with ⟨rfl, _⟩ | ⟨g', c, cur, rfl, h0, _⟩
    · cases e
    · cases e; exact h0
  have ho := (hg.block (w.heap.size + 1) (blk_lt h.obj) (fun e => by have := hvb _ e.symm; omega)).trans h.obj
  refine ⟨?_, ?_, ?_, ?_⟩
  · rw [blk_here ho 3 v']
    rfl
  · have e : sv (List.replicate (k + 1) zsec) = sv (List.replicate k zsec) ++ [Value.string zsec] := by
      rw [List.replicate_succ']
      simp [sv]
    rw [e]
    obtain ⟨r1, r2⟩ := hown
    refine ⟨r1, ?_⟩
    rcases r2 with r2 | ⟨g, c, cur, e, h0, hh, hr⟩
    · exact .inl r2
    · exact .inr ⟨g, c, cur, e, h0, (Below.heap_setCell W1 _ _ g (by show g ≠ w.heap.size + 1; omega)).trans hh, hr⟩
  · exact h.map.of_block ((Below.heap_setCell W1 _ _ _ (by show w.heap.size ≠ w.heap.size + 1; omega)).trans (hg.block _ h.map.lt (fun e => by have := hvb _ e.symm; omega)))
  · refine (h.below.grown hg (by have := h.below.size; omega) (fun k e => by have := hvb _ e; omega)).setCell (by show w.heap.size ≤ w.heap.size + 1; omega) _
theorem NwI.of {w W W1 : World} {v : Value} {k : Nat} (h : NwI w v k W) (hB : Below W.heap.size W W1) : NwI w v k W1 := by
  refine ⟨(hB.block _ (blk_lt h.obj)).trans h.obj, ?_, h.map.of_block (hB.block _ h.map.lt), bt h.below hB⟩
  obtain ⟨r1, r2⟩ := h.row
  refine ⟨r1, ?_⟩
  rcases r2 with r2 | ⟨g, c, cur, e, h0, hh, hr⟩
  · exact .inl r2
  · exact .inr ⟨g, c, cur, e, h0, (hB.block g (blk_lt hh)).trans hh, hr⟩
theorem NwI.q3 {w W : World} {v : Value} {k : Nat} (h : NwI w v k W) : W.cell? ⟨w.heap.size + 1, 3, none⟩ = some v := cl_of h.obj 3
theorem NwI.f3 {w W : World} {v : Value} {k : Nat} (h : NwI w v k W) : W.frozen? ⟨w.heap.size + 1, 3, none⟩ = false := fz_of h.obj 3
theorem NwI.o4 {w W W1 : World} {v : Value} {k : Nat} (h : NwI w v k W) (hg : W.grownBy W1 v.ownBlock) : W1.heap[w.heap.size + 1]? = W.heap[w.heap.size + 1]? := hg.block _ (blk_lt h.obj) (fun e => by
  rcases h.row.2 with ⟨rfl, _⟩ | ⟨g', c, cur, rfl, h0, _⟩
  · cases e
  · have e' : w.heap.size + 1 = g' := Option.some.inj (show some (w.heap.size + 1) = some g' from e)
    omega)
theorem NwI.q4 {w W W1 : World} {v : Value} {k : Nat} (h : NwI w v k W) (hg : W.grownBy W1 v.ownBlock) : W1.cell? ⟨w.heap.size + 1, 3, none⟩ = some v := cl_of ((h.o4 hg).trans h.obj) 3
theorem NwI.f4 {w W W1 : World} {v : Value} {k : Nat} (h : NwI w v k W) (hg : W.grownBy W1 v.ownBlock) : W1.frozen? ⟨w.heap.size + 1, 3, none⟩ = false := fz_of ((h.o4 hg).trans h.obj) 3
theorem NwI.dev {w W : World} {v : Value} {n : Nat} (h : NwI w v n W) (hn : 8 ≤ n) (hn2 : n ≤ 4096) : Dv W (w.heap.size + 1) (fun k => w.heap.size ≤ k) (newS n) := by
  have hr := h.row
  obtain ⟨g, c, rfl, hg, hl⟩ := hr.form (by omega)
  refine ⟨g, c, w.heap.size, [], ⟨?_, ?_, h.map, fun x hx => (by cases hx), fun _ _ => rfl, fun x hx => (by cases hx), fun x hx => (by cases hx), ?_⟩, ?_⟩
  · have := h.obj
    simpa [newS] using this
  · simpa [newS] using ownsRow_base hr
  · simp only [newS, List.length_replicate]
    omega
  · rintro k (rfl | rfl | rfl | ⟨x, hx, _⟩)
    · show w.heap.size ≤ w.heap.size + 1
      omega
    · show w.heap.size ≤ k
      omega
    · exact Nat.le_refl _
    · cases hx

set_option maxHeartbeats 4000000 in
theorem dev_new (n : Nat) (h8 : 8 ≤ n) (hn : n ≤ 4096) (w : World) : Calls Tryz.prog 42 #[.int .i64 n] w fun e w' => e = .returned (.tuple #[.pointer (some ⟨w.heap.size + 1, 0, none⟩), .int .i64 0]) ∧ Dv w' (w.heap.size + 1) (fun k => w.heap.size ≤ k) (newS n) ∧ Below w.heap.size w w' := by
  have d1 : decide ((n : Int) < 8) = false := decide_eq_false (by omega)
  have d2 : decide ((n : Int) > 4096) = false := decide_eq_false (by omega)
  have hmm := @run_makeMap Tryz.prog
  obtain ⟨i0, ii, hz0, hz1, hz2⟩ := infoStr
  have hone : ∀ u ∈ [Value.string zsec], u.oneCell' = true := by simp [Value.oneCell']
  go_enter Tryz.func42, Tryz.ntmps42
  go_wp2_with fail
  go_loopw [15] (fun v15 wr => ∃ k : Nat, ∃ v : Value, k ≤ n ∧ v15 = .int .i64 k ∧ NwI w v k wr) (fun v15 _ => n - (intOf v15).toNat)
  case atStart =>
    refine ⟨0, _, Nat.zero_le _, rfl, hp_new _ _ (by simp), World.ownsRow_nil _ _ _ _, (MapS.new w .i64).of_block (hp_old _ _ (by simp)), bal (bnew _ _) _⟩
  case round =>
    obtain ⟨k, v, hk, rfl, hI⟩ := hrel
    by_cases hlt : k < n
    · have q3 : wr.cell? ⟨w.heap.size + 1, 3, none⟩ = some v := cl_of hI.obj 3
      have f3 := fz_of hI.obj 3
      have hrep : ∀ W : World, Calls Tryz.prog 72 #[.string ⟨#[0]⟩, .int .i64 64] W fun e w' => e = .returned (.string zsec) ∧ Below W.heap.size W w' := by
        intro W
        have := Tryz.strings_Repeat ⟨#[0]⟩ 64 W (by decide) (by decide)
        rw [show Lib.repeatL (⟨#[0]⟩ : ByteArray).data.toList 64 = List.replicate 64 0 from repeat_zero 64] at this
        exact this
      have HR := Lib.hid hrep
      clear hrep
      go_upto_region 6 with (fail)
      have HI := Lib.hid hI
      have h63 : k + 1 ≤ maxLen := by unfold maxLen; omega
      have hby : (k + 1) * 16 ≤ 140737488355328 := by omega
      have hnx : ∀ W2, Below wr.drew.heap.size wr.drew W2 → NwI w v k W2 := fun W2 hB => hI.of (bt (Below.drew (Below.refl wr.heap.size wr)) hB)
      have HX := Lib.hid hnx
      clear hI hnx
      go_region_law (first | ((refine step_append_lies _ (by rfl) (.tmp 21) (.tmp 23) 33 (by rfl) (w.heap.size + 2) 9 i0 (.string ByteArray.empty) 1 16 Tryz.underlying33 ii hz0 hz1 hz2 (by rfl) (by decide) v k (sv (List.replicate k zsec)) (by rfl) (HI2.out.of (bnew _ _)).row ⟨_, 0, none⟩ 1 1 [.string zsec] (by rfl) (by rfl) (World.news_of_block (by first | exact hp_new _ _ rfl | exact hp_new _ _ (by simp))) hone (by decide) h63 hby (by have := HI2.out.below.size; have := blk_lt HI2.out.obj; simp; omega) _ rfl ?_); intro g cap w1 hown hgrow hlie hglt; have hst := Lib.hid (NwI.step (HI2.out.of (bnew _ _)) hgrow hown); have q4 := NwI.q4 (HI2.out.of (bnew _ _)) hgrow; have f4 := NwI.f4 (HI2.out.of (bnew _ _)) hgrow) | (go_simp; refine (HR.out _).mono ?_; rintro e w2 ⟨rfl, hB2⟩; have HI2 := Lib.hid (HX.out _ hB2); have q2 := HI2.out.q3; have f2 := HI2.out.f3; have q2a := (HI2.out.of (bnew _ (.cells #[.string zsec] 9))).q3))
      all_goals
        go_wp2_with fail
        go_roundw
        case rel => exact ⟨k + 1, _, by omega, by go_num, hst.out⟩
        case measure => simp [intOf]; omega
    · obtain rfl : k = n := by omega
      have hdv := hI.dev h8 hn
      go_wp2_with fail
      go_ret2
      exact ⟨rfl, hdv, hI.below⟩
end Go.Proofs.YtjjphcnoegaimaaGreat
