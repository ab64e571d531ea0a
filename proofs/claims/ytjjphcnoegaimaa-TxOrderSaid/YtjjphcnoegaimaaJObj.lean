/- A journal on a device of a caller's own, as one predicate of a world; what the device does under it. -/
import Derived.Test.YtjjphcnoegaimaaJSplit
import Derived.Test.YtjjphcnoegaimaaDevO
namespace Go.Proofs.Ytjjphcnoegaimaa
open Go.RowKit Go.Shelf Go.Maps
set_option maxRecDepth 20000

/-- The caller's blocks, and what came in, lie as they lay. -/
def Kb (w0 : World) (X : Nat → Prop) (W W' : World) : Prop := ∀ k, (k < w0.heap.size ∨ X k) → W'.heap[k]? = W.heap[k]?
theorem Kb.t {w0 : World} {X : Nat → Prop} {A B C : World} (h : Kb w0 X A B) (k : Kb w0 X B C) : Kb w0 X A C := fun i hi => (k i hi).trans (h i hi)
theorem Kb.refl (w0 : World) (X : Nat → Prop) (W : World) : Kb w0 X W W := fun _ _ => rfl
theorem Kb.less {w0 : World} {X Y : Nat → Prop} {A B : World} (h : Kb w0 X A B) (hy : ∀ k, Y k → X k) : Kb w0 Y A B := fun i hi => h i (hi.imp id (hy i))
theorem Kb.cell {w0 : World} {X : Nat → Prop} {W W' : World} (h : Kb w0 X W W') {b : Nat} (hb : b < w0.heap.size ∨ X b) (j : Nat) : W'.cell? ⟨b, j, none⟩ = W.cell? ⟨b, j, none⟩ := World.cell?_of_block (w := W) (h b hb)
theorem Kb.of_below {w0 : World} {X : Nat → Prop} {W W' : World} (h : Below W.heap.size W W') (hx : ∀ k, (k < w0.heap.size ∨ X k) → k < W.heap.size) : Kb w0 X W W' := fun k hk => h.block k (hx k hk)
theorem DvO.old {w0 W : World} {X : Nat → Prop} {p : Nat} {s : DS} (h : DvO w0 X p s W) : ∀ k, (k < w0.heap.size ∨ X k) → k < W.heap.size := fun k hk => hk.elim (fun e => Nat.lt_of_lt_of_le e h.below.size) (h.lt k)
theorem DvO.kb {w0 W W' : World} {X : Nat → Prop} {p : Nat} {s s' : DS} (h : DvO w0 X p s W) (h' : DvO w0 X p s' W') (hk : KX X W W') : Kb w0 X W W' := fun k e => e.elim (fun e => (h'.below.block k e).trans (h.below.block k e).symm) (hk k)
theorem DvO.kbelow {w0 W W' : World} {X : Nat → Prop} {p : Nat} {s : DS} (h : DvO w0 X p s W) (hB : Below W.heap.size W W') : Kb w0 X W W' := Kb.of_below hB h.old
/-- A block of the caller's own is set. -/
theorem DvO.set {w0 W : World} {X : Nat → Prop} {p : Nat} {s : DS} (h : DvO w0 X p s W) {b : Nat} (hb : X b) (hw : w0.heap.size ≤ b) (j : Nat) (v : Value) : DvO w0 X p s (W.setCell ⟨b, j, none⟩ v) := by
  refine ⟨?_, h.below.setCell hw _, fun k hk => by have := h.lt k hk; simpa using this⟩
  have hf : Fr (fun k => k = b) W (W.setCell ⟨b, j, none⟩ v) := Fr.setCell (Fr.refl (fun k => k = b) W) ⟨b, j, none⟩ (.inr rfl) v
  refine h.dev.fr hf (fun k hk e => ?_)
  subst e
  exact hk.2 hb
theorem kb_set {W : World} {b : Nat} (j : Nat) (v : Value) : ∀ k, k ≠ b → (W.setCell ⟨b, j, none⟩ v).heap[k]? = W.heap[k]? := fun k hk => Below.heap_setCell W ⟨b, j, none⟩ v k hk

/-- What a device's operations answer. -/
def errO (r : DS × Bool) : Int := if r.2 = true then 0 else 30
theorem runO_one (s : DS) (o : DOp) : runO s [o] = if s.dead = true then (s, false) else (o.on s, true) := rfl
theorem runO_append : ∀ (a b : List DOp) (s : DS), runO s (a ++ b) = if (runO s a).2 = true then runO (runO s a).1 b else runO s a
  | [], b, s => rfl
  | o :: a, b, s => by
    rw [List.cons_append, runO, runO]
    split
    · rfl
    · exact runO_append a b _

/-- A journal. -/
structure JS (w0 : World) (X : Nat → Prop) (p jb N B fr n g r : Nat) (s : DS) (W : World) : Prop where
  dev : DvO w0 X p s W
  ok : Okd N B s
  obj : W.heap[jb]? = some (.cells #[.pointer (some ⟨p, 0, none⟩), .int .i64 fr, .int .i64 n, .int .u64 g, .int .i64 r] 112 (0, 0))
  own : X jb
  ge : w0.heap.size ≤ jb
section
variable {w0 W W' : World} {X : Nat → Prop} {p jb N B fr n g r : Nat} {s s' : DS}
theorem JS.of (h : JS w0 X p jb N B fr n g r s W) (hB : Below W.heap.size W W') : JS w0 X p jb N B fr n g r s W' := ⟨h.dev.of hB, h.ok, bblk hB h.obj, h.own, h.ge⟩
theorem JS.drew (h : JS w0 X p jb N B fr n g r s W) : JS w0 X p jb N B fr n g r s W.drew := h.of (Below.refl _ _).drew
theorem JS.mono (h : JS w0 X p jb N B fr n g r s W) {C : Nat} (hc : B ≤ C) : JS w0 X p jb N C fr n g r s W := ⟨h.dev, h.ok.mono hc, h.obj, h.own, h.ge⟩
theorem JS.take (h : JS w0 X p jb N B fr n g r s W) (hB : Below W.heap.size W W') : JS w0 (fun k => X k ∨ W.heap.size ≤ k ∧ k < W'.heap.size) p jb N B fr n g r s W' := ⟨h.dev.take hB, h.ok, bblk hB h.obj, .inl h.own, h.ge⟩
theorem JS.less {Y : Nat → Prop} (h : JS w0 X p jb N B fr n g r s W) (hY : ∀ k, Y k → X k) (hj : Y jb) : JS w0 Y p jb N B fr n g r s W := ⟨h.dev.less hY, h.ok, h.obj, hj, h.ge⟩
theorem JS.kb (h : JS w0 X p jb N B fr n g r s W) (hB : Below W.heap.size W W') : Kb w0 X W W' := h.dev.kbelow hB
theorem JS.step (h : JS w0 X p jb N B fr n g r s W) {C : Nat} (hd : DvO w0 X p s' W') (hk : Kb w0 X W W') (ho : Okd N C s') : JS w0 X p jb N C fr n g r s' W' := ⟨hd, ho, (hk jb (.inr h.own)).trans h.obj, h.own, h.ge⟩
/-- Another block of the caller's own is set. -/
theorem JS.set (h : JS w0 X p jb N B fr n g r s W) {b : Nat} (hb : X b) (hw : w0.heap.size ≤ b) (hne : b ≠ jb) (j : Nat) (v : Value) : JS w0 X p jb N B fr n g r s (W.setCell ⟨b, j, none⟩ v) :=
  ⟨h.dev.set hb hw j v, h.ok, (kb_set j v jb (fun e => hne e.symm)).trans h.obj, h.own, h.ge⟩
theorem JS.setGen (h : JS w0 X p jb N B fr n g r s W) (g' : Nat) : JS w0 X p jb N B fr n g' r s (W.setCell ⟨jb, 3, none⟩ (.int .u64 g')) :=
  ⟨h.dev.set h.own h.ge 3 _, h.ok, by rw [blk_here h.obj 3]; rfl, h.own, h.ge⟩
theorem JS.setRec (h : JS w0 X p jb N B fr n g r s W) (r' : Nat) : JS w0 X p jb N B fr n g r' s (W.setCell ⟨jb, 4, none⟩ (.int .i64 r')) :=
  ⟨h.dev.set h.own h.ge 4 _, h.ok, by rw [blk_here h.obj 4]; rfl, h.own, h.ge⟩

theorem u64_sm {n : Int} (h0 : 0 ≤ n) (h : n < 1000000) : IntKind.u64.wrap n = n := by rw [IntKind.wrap_u64]; omega
theorem i64_sm {n : Int} (h0 : -1000000 ≤ n) (h : n < 1000000) : IntKind.i64.wrap n = n := IntWalk.i64_in _ (by omega)
theorem js_write (h : JS w0 X p jb N B fr n g r s W) (hB : B ≤ 90000) (i : Nat) (hi : i < N) (b : ByteArray) (hb : b.size = 64) : Calls Try.prog 16 #[.pointer (some ⟨p, 0, none⟩), .int .i64 i, .string b] W fun e W' =>
    e = .returned (.int .i64 (errO (runO s [.wr i b]))) ∧ JS w0 X p jb N (B + 1) fr n g r (runO s [.wr i b]).1 W' ∧ Kb w0 X W W' := by
  rw [runO_one]
  by_cases hd : s.dead = true
  · rw [if_pos hd]
    refine (write_down h.dev.dev hd _ _).mono ?_
    rintro e W' ⟨rfl, rfl⟩
    exact ⟨rfl, h.mono (by omega), Kb.refl _ _ _⟩
  · rw [if_neg hd]
    have hd' : s.dead = false := by simpa using hd
    have := h.ok.w0
    have := h.ok.w1
    have := h.ok.l0
    have := h.ok.l1
    have hr := h.ok.rows i
    refine (o_write h.dev hd' i (by rw [h.ok.hard]; exact hi) b hb (by omega) (u64_sm (by omega) (by omega)) (i64_sm (by omega) (by omega))).mono ?_
    rintro e W' ⟨rfl, h2, hk⟩
    have hkb := h.dev.kb h2 hk
    exact ⟨rfl, h.step h2 hkb (h.ok.wr hd' i b hb), hkb⟩
theorem js_flush (h : JS w0 X p jb N B fr n g r s W) (hB : B ≤ 90000) : Calls Try.prog 19 #[.pointer (some ⟨p, 0, none⟩)] W fun e W' =>
    e = .returned (.int .i64 (errO (runO s [.fl]))) ∧ JS w0 X p jb N B fr n g r (runO s [.fl]).1 W' ∧ Kb w0 X W W' := by
  rw [runO_one]
  by_cases hd : s.dead = true
  · rw [if_pos hd]
    refine (flush_down h.dev.dev hd).mono ?_
    rintro e W' ⟨rfl, hB⟩
    exact ⟨rfl, h.of hB, h.kb hB⟩
  · rw [if_neg hd]
    have hd' : s.dead = false := by simpa using hd
    refine (o_flush h.dev hd' (fun j => Nat.le_trans (h.ok.rows j) (by omega))).mono ?_
    rintro e W' ⟨rfl, h2, hk⟩
    have hkb := h.dev.kb h2 hk
    exact ⟨rfl, h.step h2 hkb h.ok.fl, hkb⟩
theorem js_read (h : JS w0 X p jb N B fr n g r s W) (hd : s.dead = false) (i : Nat) (hi : i < N) : Calls Try.prog 20 #[.pointer (some ⟨p, 0, none⟩), .int .i64 i] W fun e W' =>
    e = .returned (.tuple #[.string (newest s i), .int .i64 0]) ∧ JS w0 X p jb N B fr n g r s W' ∧ Kb w0 X W W' := by
  refine (o_read h.dev hd i (by rw [h.ok.hard]; exact hi)).mono ?_
  rintro e W' ⟨rfl, h2, hk⟩
  have hkb := h.dev.kb h2 hk
  exact ⟨rfl, h.step h2 hkb h.ok, hkb⟩
theorem js_read_down (h : JS w0 X p jb N B fr n g r s W) (hd : s.dead = true) (i : Int) : Calls Try.prog 20 #[.pointer (some ⟨p, 0, none⟩), .int .i64 i] W fun e W' =>
    e = .returned (.tuple #[.string ByteArray.empty, .int .i64 30]) ∧ JS w0 X p jb N B fr n g r s W' ∧ Kb w0 X W W' := by
  have h' := h
  obtain ⟨hb, hc, m, L, h1, h2⟩ := h.dev.dev
  refine (dev_read_down h1 hd i).mono ?_
  rintro e W' ⟨rfl, hB⟩
  exact ⟨rfl, h'.of hB, h'.kb hB⟩
theorem js_len (h : JS w0 X p jb N B fr n g r s W) : Calls Try.prog 67 #[.pointer (some ⟨p, 0, none⟩)] W fun e W' => e = .returned (.int .i64 N) ∧ W = W' := by
  rw [← h.ok.hard]
  obtain ⟨hb, hc, m, L, h1, h2⟩ := h.dev.dev
  exact dev_len h1
set_option maxHeartbeats 400000 in
theorem jgen_any (h : JS w0 X p jb N B fr n g r s W) : Calls Try.prog 34 #[.pointer (some ⟨jb, 0, none⟩)] W fun e W' => e = .returned (.int .u64 g) ∧ W = W' := by
  have h3 := cl_of h.obj 3
  go_enter Try.func34, Try.ntmps34
  go_wp2_with fail
  go_ret
  exact ⟨rfl, rfl⟩
set_option maxHeartbeats 400000 in
theorem jmax_any (h : JS w0 X p jb N B fr n g r s W) {m : Nat} (hm : IsMost n m) (hn : n ≤ 100000) : Calls Try.prog 38 #[.pointer (some ⟨jb, 0, none⟩)] W fun e W' => e = .returned (.int .i64 m) ∧ W = W' := by
  have h2 := cl_of h.obj 2
  have hc := most_any n m hn hm W
  have HC := Lib.hid hc
  clear hc hm
  go_enter Try.func38, Try.ntmps38
  go_wp2_with fail
  refine HC.out.mono ?_
  rintro e w1 ⟨rfl, rfl⟩
  go_wp2_with fail
  go_ret
  exact ⟨rfl, rfl⟩
end

/-- A transaction under way. -/
def WO (W : World) (wb jb g : Nat) (lv : Value) : Prop := W.heap[wb]? = some (.cells #[.pointer (some ⟨jb, 0, none⟩), .int .u64 g, lv] 116 (0, 0))
theorem WO.kb {w0 W W' : World} {X : Nat → Prop} {wb jb g : Nat} {lv : Value} (h : WO W wb jb g lv) (hk : Kb w0 X W W') (hx : X wb) : WO W' wb jb g lv := (hk wb (.inr hx)).trans h
/-- A row of puts. -/
def SlP (w0 : World) (X : Nat → Prop) (W : World) (v : Value) (ls : List (Int × ByteArray)) : Prop := ∃ ao cap, v = .slice ao ls.length cap ∧ (0 < ls.length → ∃ b off, ao = some ⟨b, off, none⟩ ∧ (b < w0.heap.size ∨ X b) ∧ ∀ i, i < ls.length → W.cell? ⟨b, off + i * 2, none⟩ = some (.int .i64 (ls.getD i (0, ByteArray.empty)).1) ∧ W.cell? ⟨b, off + i * 2 + 1, none⟩ = some (.string (ls.getD i (0, ByteArray.empty)).2))
theorem SlP.kb {w0 W W' : World} {X : Nat → Prop} {v : Value} {ls : List (Int × ByteArray)} (h : SlP w0 X W v ls) (hk : Kb w0 X W W') : SlP w0 X W' v ls := by
  obtain ⟨ao, cap, e, h⟩ := h
  refine ⟨ao, cap, e, fun h0 => ?_⟩
  obtain ⟨b, off, e2, hb, hc⟩ := h h0
  exact ⟨b, off, e2, hb, fun i hi => ⟨(hk.cell hb _).trans (hc i hi).1, (hk.cell hb _).trans (hc i hi).2⟩⟩
theorem SlP.less {w0 W : World} {X Y : Nat → Prop} {v : Value} {ls : List (Int × ByteArray)} (h : SlP w0 X W v ls) (hy : ∀ k, X k → Y k) : SlP w0 Y W v ls := by
  obtain ⟨ao, cap, e, h⟩ := h
  refine ⟨ao, cap, e, fun h0 => ?_⟩
  obtain ⟨b, off, e2, hb, hc⟩ := h h0
  exact ⟨b, off, e2, hb.imp id (hy b), hc⟩
/-- A transaction, its sectors as Go's numbers. -/
def zP (l : Puts) : List (Int × ByteArray) := l.map fun x => ((x.1 : Int), x.2)
theorem zP_length (l : Puts) : (zP l).length = l.length := by simp [zP]
theorem zP_get (l : Puts) (i : Nat) (h : i < l.length) : (zP l).getD i (0, ByteArray.empty) = ((l[i].1 : Int), l[i].2) := by simp [zP, List.getD_eq_getElem?_getD, h]
end Go.Proofs.Ytjjphcnoegaimaa
