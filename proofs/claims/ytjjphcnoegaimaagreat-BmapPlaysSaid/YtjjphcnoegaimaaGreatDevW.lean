/- package dev: Write. -/
import Derived.Test.YtjjphcnoegaimaaGreatGC
import Derived.Deep.RegionHeld3
import Derived.Deep.RegionLaw
import Derived.Deep.DeepCutAuto
import Derived.Deep.AppendLies
namespace Go.Proofs.YtjjphcnoegaimaaGreat
open Go.RowKit Go.Maps
set_option maxRecDepth 20000
attribute [local go_sem ↓] field_row

theorem Fr.setCell {S : Nat → Prop} {a w : World} (h : Fr S a w) (p : Addr) (hp : a.heap.size ≤ p.block ∨ S p.block) (v : Value) : Fr S a (w.setCell p v) :=
  ⟨h.os, h.tape, h.output, by simpa [World.setCell] using h.size, fun k hk hs => (Below.heap_setCell w p v k (by rintro rfl; rcases hp with hp | hp; omega; exact hs hp)).trans (h.block k hk hs)⟩
theorem Fr.grown {S : Nat → Prop} {a w w' : World} {row : Option Nat} (h : Fr S a w) (hg : w.grownBy w' row) (hr : ∀ k, row = some k → a.heap.size ≤ k ∨ S k) : Fr S a w' :=
  ⟨hg.os.trans h.os, hg.tape.trans h.tape, hg.output.trans h.output, Nat.le_trans h.size hg.size, fun k hk hs => (hg.block k (Nat.lt_of_lt_of_le hk h.size) (fun e => by rcases hr k e.symm with h | h; omega; exact hs h)).trans (h.block k hk hs)⟩
theorem Fr.al {S : Nat → Prop} {a w : World} (h : Fr S a w) (o : Obj) : Fr S a (w.alloc o) :=
  ⟨h.os, h.tape, h.output, by have := h.size; rw [show (w.alloc o).heap.size = w.heap.size + 1 by simp]; omega, fun k hk hs => (hp_old w o (Nat.lt_of_lt_of_le hk h.size)).trans (h.block k hk hs)⟩

/-- A sector's row is another one. -/
def setR (r : Int → List ByteArray) (i : Int) (l : List ByteArray) : Int → List ByteArray := fun k => if k = i then l else r k
theorem setR_same (r : Int → List ByteArray) (i : Int) (l : List ByteArray) : setR r i l i = l := by simp [setR]
theorem setR_other (r : Int → List ByteArray) {i k : Int} (l : List ByteArray) (h : k ≠ i) : setR r i l k = r k := by simp [setR, h]

section
variable {W W' : World} {p hb hc m : Nat} {L : List (Int × Value)} {s : DS}

/-- The fields of the device's own block turn; nothing else of it. -/
theorem DevAt.obj' (h : DevAt W p hb hc m L s) {a d : Bool} {n wr : Int} (ho : W'.heap[p]? = some (.cells #[.bool a, .int .i64 n, .bool d, .slice (some ⟨hb, 0, none⟩) s.hard.length hc, .map (some m), .int .u64 wr] 116 (0, 0)))
    (hk : ∀ k, dfoot p hb m L k → k ≠ p → W'.heap[k]? = W.heap[k]?) : DevAt W' p hb hc m L { s with armed := a, left := n, dead := d, writes := wr } := by
  refine ⟨ho, ownsRow_of_block h.hard (fun k e => hk k (.inr (.inl (by cases e; rfl))) (by cases e; exact h.hp)), h.map.of_block (hk m (.inr (.inr (.inl rfl))) h.pm), fun x hx => ?_, h.norow, h.apart, h.range, h.pos⟩
  obtain ⟨g, c, e1, h1, h2, h3⟩ := h.rows x hx
  refine ⟨g, c, e1, ownsRow_of_block h1 (fun k e => hk k (.inr (.inr (.inr ⟨x, hx, by rw [e1]; exact e⟩))) ?_), h2, h3⟩
  rintro rfl
  cases e
  obtain ⟨cur, hb⟩ := ownsRow_type h1 rfl
  rw [h.obj] at hb
  simp at hb

theorem mget_lt {k : Int} {v : Value} (h : mget k L = some v) (hr : ∀ x ∈ L, 0 ≤ x.1 ∧ x.1 < s.hard.length) : 0 ≤ k ∧ k < s.hard.length := hr _ (mget_mem h)

/-- A sector's row lies so. -/
theorem DevAt.row (h : DevAt W p hb hc m L s) (k : Int) : ∃ v, rowOf L k = .agg #[v] ∧ W.ownsRow 0 9 1 v (s.rows k).length (sv (s.rows k)) ∧ ∀ g, v.ownBlock = some g → g ≠ hb ∧ g ≠ p ∧ g ≠ m ∧ g < W.heap.size ∧ dfoot p hb m L g ∧ rblk (rowOf L k) = some g ∧ mget k L = some (rowOf L k) := by
  by_cases hr : s.rows k = []
  · refine ⟨.slice none 0 0, by rw [rowOf, h.row_none hr]; rfl, by rw [hr]; exact World.ownsRow_nil W 0 _ 1, fun g e => by cases e⟩
  · obtain ⟨g, c, e, h1, h2, h3, h4, h5⟩ := h.row_some hr
    have hro : rowOf L k = .agg #[.slice (some ⟨g, 0, none⟩) (s.rows k).length c] := by rw [rowOf, e]; rfl
    refine ⟨_, hro, h1, fun g' e' => ?_⟩
    cases e'
    exact ⟨h2, h3, h4, h.lt h5, h5, by rw [hro]; rfl, by rw [hro]; exact e⟩

/-- A row is laid for a sector. -/
theorem DevAt.add (h : DevAt W p hb hc m L s) {i : Nat} (hi : i < s.hard.length) {l : List ByteArray} (hl : l ≠ []) {g c : Nat}
    (hnew : W'.ownsRow 0 9 1 (.slice (some ⟨g, 0, none⟩) l.length c) l.length (sv l)) (hm : MapS W' m .i64 (mput i (.agg #[.slice (some ⟨g, 0, none⟩) l.length c]) L))
    (hlie : rblk (rowOf L i) = some g ∧ mget i L = some (rowOf L i) ∨ W.heap.size ≤ g) (hghb : g ≠ hb)
    (hk : ∀ k, k < W.heap.size → k ≠ m → k ≠ g → (∀ v, mget i L = some v → rblk v ≠ some k) → W'.heap[k]? = W.heap[k]?) :
    DevAt W' p hb hc m (mput i (.agg #[.slice (some ⟨g, 0, none⟩) l.length c]) L) { s with rows := setR s.rows i l } := by
  have hgp : g ≠ p := by
    rcases hlie with ⟨h1, h2⟩ | h1
    · rintro rfl
      obtain ⟨g', c', e1, h3, _⟩ := h.rows _ (mget_mem h2)
      dsimp only at e1
      rw [e1] at h1
      obtain ⟨cur, hb⟩ := ownsRow_type h3 h1
      rw [h.obj] at hb
      simp at hb
    · have := h.lt (.inl rfl); omega
  have hold : ∀ v, mget i L = some v → rblk v ≠ some p ∧ rblk v ≠ some hb := by
    intro v hv
    obtain ⟨g', c', e1, h3, _, h5⟩ := h.rows _ (mget_mem hv)
    dsimp only at e1
    rw [e1]
    refine ⟨fun e => ?_, fun e => ?_⟩
    · obtain ⟨cur, hb⟩ := ownsRow_type h3 e
      rw [h.obj] at hb
      simp at hb
    · cases e
      exact h5 rfl
  have hgfar : ∀ x ∈ L, x.1 ≠ (i : Int) → rblk x.2 ≠ some g := by
    intro x hx hne e
    rcases hlie with ⟨h1, h2⟩ | h1
    · exact h.apart x hx _ (mget_mem h2) hne (by rw [e]; exact h1.symm)
    · have := h.lt (.inr (.inr (.inr ⟨x, hx, e⟩))); omega
  have hmem : ∀ x ∈ mput i (.agg #[.slice (some ⟨g, 0, none⟩) l.length c]) L, (x.1 = (i : Int) ∧ x.2 = .agg #[.slice (some ⟨g, 0, none⟩) l.length c]) ∨ (x.1 ≠ (i : Int) ∧ x ∈ L) := by
    intro x hx
    have hg := mget_of_mem hm.nodup (show (x.1, x.2) ∈ _ from hx)
    rw [mget_put] at hg
    split at hg
    · rename_i e
      simp only [Option.some.injEq] at hg
      exact .inl ⟨e, hg.symm⟩
    · rename_i e
      exact .inr ⟨e, mget_mem hg⟩
  refine ⟨(hk p (h.lt (.inl rfl)) (fun e => h.pm e.symm) (fun e => hgp e.symm) (fun v hv => (hold v hv).1)).trans h.obj, ownsRow_of_block h.hard (fun k e => by cases e; exact hk hb (h.lt (.inr (.inl rfl))) h.hm (fun e => hghb e.symm) (fun v hv => (hold v hv).2)), hm, fun x hx => ?_, fun k hkn => ?_, fun x hx y hy hxy => ?_, fun x hx => ?_, h.pos⟩
  · rcases hmem x hx with ⟨e1, e2⟩ | ⟨e1, e2⟩
    · simp only [e1, setR_same]
      exact ⟨g, c, e2, hnew, hl, hghb⟩
    · obtain ⟨g', c', e3, h1, h2, h3⟩ := h.rows x e2
      simp only [setR_other s.rows l e1]
      refine ⟨g', c', e3, ownsRow_of_block h1 (fun k e => ?_), h2, h3⟩
      cases e
      refine hk _ (ownsRow_lt h1 rfl) ?_ ?_ (fun v hv e => h.apart x e2 _ (mget_mem hv) e1 (by rw [e3]; exact e.symm))
      · rintro rfl
        obtain ⟨cur, hb⟩ := ownsRow_type h1 rfl
        obtain ⟨es, c, hb', _⟩ := h.map
        rw [hb'] at hb
        cases hb
      · rintro rfl
        exact hgfar x e2 e1 (by rw [e3]; rfl)
  · rw [mput_keys] at hkn
    have hki : k ≠ (i : Int) := by
      rintro rfl
      split at hkn
      · rename_i h'; exact hkn (by simpa using h')
      · exact hkn (by simp)
    simp only [setR_other s.rows l hki]
    refine h.norow k (fun hin => hkn ?_)
    split
    · exact hin
    · exact List.mem_append_left _ hin
  · rcases hmem x hx with ⟨e1, e2⟩ | ⟨e1, e2⟩ <;> rcases hmem y hy with ⟨f1, f2⟩ | ⟨f1, f2⟩
    · exact absurd (e1.trans f1.symm) hxy
    · rw [e2]; exact fun e => hgfar y f2 f1 e.symm
    · rw [f2]; exact hgfar x e2 e1
    · exact h.apart x e2 y f2 hxy
  · rcases hmem x hx with ⟨e1, e2⟩ | ⟨e1, e2⟩
    · rw [e1]; exact ⟨by omega, by exact_mod_cast hi⟩
    · exact h.range x e2
end

/-- A device whose blocks are among F. -/
def Dv (W : World) (p : Nat) (F : Nat → Prop) (s : DS) : Prop := ∃ hb hc m L, DevAt W p hb hc m L s ∧ ∀ k, dfoot p hb m L k → F k
/-- What a call leaves of a device: it may have new blocks. -/
def DvS (w : World) (p : Nat) (F : Nat → Prop) (s : DS) (w' : World) : Prop := Dv w' p (fun k => F k ∨ w.heap.size ≤ k) s ∧ Fr F w w' ∧ w'.cell? ⟨p, 4, none⟩ = w.cell? ⟨p, 4, none⟩
theorem DvS.of {w w' : World} {p hb hc m hb' hc' : Nat} {L L' : List (Int × Value)} {s s' : DS} {F : Nat → Prop} (h : DevAt w p hb hc m L s) (h' : DevAt w' p hb' hc' m L' s') (hF : ∀ k, dfoot p hb' m L' k → F k ∨ w.heap.size ≤ k) (hf : Fr F w w') : DvS w p F s' w' :=
  ⟨⟨hb', hc', m, L', h', hF⟩, hf, (cl_of h'.obj 4).trans (cl_of h.obj 4).symm⟩

section
variable {W W' : World} {p : Nat} {F : Nat → Prop} {s : DS}
theorem Dv.fr {T : Nat → Prop} (h : Dv W p F s) (hf : Fr T W W') (hd : ∀ k, F k → ¬ T k) : Dv W' p F s := by
  obtain ⟨hb, hc, m, L, h1, h2⟩ := h
  exact ⟨hb, hc, m, L, h1.fr hf (fun k hk => hd k (h2 k hk)), h2⟩
theorem Dv.below (h : Dv W p F s) (hf : Below W.heap.size W W') : Dv W' p F s := h.fr (Fr.of_below (S := fun _ => False) hf) (fun _ _ => id)
theorem Dv.weak {G : Nat → Prop} (h : Dv W p F s) (hg : ∀ k, F k → G k) : Dv W p G s := by
  obtain ⟨hb, hc, m, L, h1, h2⟩ := h
  exact ⟨hb, hc, m, L, h1, fun k hk => hg k (h2 k hk)⟩
end
section
variable {w : World} {p : Nat} {F : Nat → Prop} {s : DS}

set_option maxHeartbeats 400000 in
theorem write_down (h : Dv w p F s) (hd : s.dead = true) (i : Int) (b : ByteArray) : Calls Tryz.prog 107 #[.pointer (some ⟨p, 0, none⟩), .int .i64 i, .string b] w fun e w' => e = .returned (.int .i64 30) ∧ w = w' := by
  obtain ⟨hb, hc, m, L, h, -⟩ := h
  go_enter Tryz.func107, Tryz.ntmps107
  go_wp2_with fail
  refine (dev_ready_no h hd).mono ?_
  rintro e w1 ⟨rfl, rfl⟩
  go_wp2_with fail
  go_ret
  exact ⟨rfl, rfl⟩
set_option maxHeartbeats 400000 in
theorem write_no (h : Dv w p F s) (hd : s.dead = false) (i : Int) (b : ByteArray) (hi : dhas s i = false ∨ b.size ≠ 64) : Calls Tryz.prog 107 #[.pointer (some ⟨p, 0, none⟩), .int .i64 i, .string b] w fun e w' => e = .returned (.int .i64 2) ∧ w = w' := by
  obtain ⟨hb, hc, m, L, h, -⟩ := h
  cases hh : dhas s i
  · go_enter Tryz.func107, Tryz.ntmps107
    go_wp2_with fail
    refine (dev_ready h hd).mono ?_
    rintro e w1 ⟨rfl, rfl⟩
    go_wp2_with fail
    refine (dev_has h i false hh).mono ?_
    rintro e w1 ⟨rfl, rfl⟩
    go_wp2_with fail
    go_ret
    exact ⟨rfl, rfl⟩
  · have hbs : ¬ ((b.size : Int) = 64) := by
      rcases hi with hi | hi
      · rw [hh] at hi; cases hi
      · omega
    go_enter Tryz.func107, Tryz.ntmps107
    go_wp2_with fail
    refine (dev_ready h hd).mono ?_
    rintro e w1 ⟨rfl, rfl⟩
    go_wp2_with fail
    refine (dev_has h i true hh).mono ?_
    rintro e w1 ⟨rfl, rfl⟩
    go_wp2_with fail
    go_ret
    exact ⟨rfl, rfl⟩

theorem Tryz.infoStr : (Tryz.prog.info? 9).map (fun i => (i.zero, i.size, i.bytes)) = some (some (.string ByteArray.empty), 1, 16) := by kernel_rfl
theorem infoStr : ∃ i0, Tryz.prog.info? 9 = some i0 ∧ i0.zero = some (.string ByteArray.empty) ∧ i0.size = 1 ∧ i0.bytes = 16 := by
  have h := Tryz.infoStr
  cases e : Tryz.prog.info? 9 with
  | none => rw [e] at h; cases h
  | some i =>
    rw [e] at h
    simp only [Option.map_some, Option.some.injEq, Prod.mk.injEq] at h
    exact ⟨i, rfl, h.1, h.2.1, h.2.2⟩

/-- A device behind a write. -/
def wrS (s : DS) (i : Int) (b : ByteArray) : DS :=
  { s with rows := setR s.rows i (s.rows i ++ [b]), writes := s.writes + 1, left := if s.armed = true then s.left - 1 else s.left, dead := if s.armed = true then decide (s.left - 1 = 0) else s.dead }

/-- What the write's region reads. -/
def Wr (w : World) (p m : Nat) (i : Int) (v : Value) (W : World) : Prop := Below w.heap.size w W ∧ W.cell? ⟨p, 4, none⟩ = some (.map (some m)) ∧ (Instr.lookup 114 (.map (some m)) (.int .i64 i) false).run Tryz.prog W = .ok (.agg #[v]) W
theorem DevAt.wr {hb hc m : Nat} {L : List (Int × Value)} (h : DevAt w p hb hc m L s) {i : Int} {v : Value} (hro : rowOf L i = .agg #[v]) {W : World} (hB : Below w.heap.size w W) : Wr w p m i v W := by
  have h' := h.below hB
  exact ⟨hB, cl_of h'.obj 4, by rw [← hro]; exact h'.look i⟩

/-- Behind the map's turn. -/
def MidW (w : World) (p hb hc m : Nat) (F : Nat → Prop) (s : DS) (i : Int) (b : ByteArray) (wx : World) : Prop :=
  ∃ L', DevAt wx p hb hc m L' { s with rows := setR s.rows i (s.rows i ++ [b]) } ∧ Fr F w wx ∧ ∀ k, dfoot p hb m L' k → F k ∨ w.heap.size ≤ k
theorem midW {hb hc m : Nat} {L : List (Int × Value)} (h : DevAt w p hb hc m L s) (hF : ∀ k, dfoot p hb m L k → F k) {i : Nat} (hi : i < s.hard.length) {b : ByteArray} {v : Value}
    (hblk : ∀ g, v.ownBlock = some g → g ≠ hb ∧ g ≠ p ∧ g ≠ m ∧ g < w.heap.size ∧ dfoot p hb m L g ∧ rblk (rowOf L i) = some g ∧ mget i L = some (rowOf L i)) {W w1 w2 : World} (hB : Below w.heap.size w W) {g cap : Nat}
    (hown : w1.ownsRow 0 9 1 (.slice (some ⟨g, 0, none⟩) ((s.rows i).length + 1) cap) ((s.rows i).length + 1) (sv (s.rows i) ++ [Value.string b])) (hgrow : W.grownBy w1 v.ownBlock) (hlie : v.ownBlock = some g ∨ g = W.heap.size)
    (hm2 : MapS w2 m .i64 (mput i (.agg #[.slice (some ⟨g, 0, none⟩) ((s.rows i).length + 1) cap]) L)) (hg2 : w1.grownBy w2 (some m)) : MidW w p hb hc m F s i b w2 := by
  have hml : m < w.heap.size := h.lt (.inr (.inr (.inl rfl)))
  have hbl : hb < w.heap.size := h.lt (.inr (.inl rfl))
  have hsz := hB.size
  have hlen : (s.rows i ++ [b]).length = (s.rows i).length + 1 := by simp
  have hgm : g ≠ m := by
    rcases hlie with e | e
    · exact (hblk g e).2.2.1
    · omega
  have hglt := ownsRow_lt hown rfl
  have hF2 : Fr F w w2 := by
    refine ((Fr.of_below hB).grown hgrow (fun k e => .inr (hF k (hblk k e).2.2.2.2.1))).grown hg2 (fun k e => ?_)
    cases e
    exact .inr (hF m (.inr (.inr (.inl rfl))))
  have hk : ∀ k, k < w.heap.size → k ≠ m → k ≠ g → (∀ v, mget i L = some v → rblk v ≠ some k) → w2.heap[k]? = w.heap[k]? := by
    intro k hk hkm hkg hkv
    rw [hg2.block k (by have := hgrow.size; omega) (by simpa using hkm), hgrow.block k (by omega) ?_, hB.block k hk]
    intro e
    have := hblk k e.symm
    exact hkv _ this.2.2.2.2.2.2 this.2.2.2.2.2.1
  have hnew : w2.ownsRow 0 9 1 (.slice (some ⟨g, 0, none⟩) (s.rows i ++ [b]).length cap) (s.rows i ++ [b]).length (sv (s.rows i ++ [b])) := by
    rw [hlen]
    have : sv (s.rows i ++ [b]) = sv (s.rows i) ++ [Value.string b] := by simp [sv]
    rw [this]
    refine ownsRow_of_block hown (fun k e => ?_)
    cases e
    exact hg2.block g hglt (by simpa using hgm)
  refine ⟨_, h.add hi (by simp) hnew (by rw [hlen]; exact hm2) ?_ ?_ hk, hF2, ?_⟩
  · rcases hlie with e | e
    · exact .inl (hblk g e).2.2.2.2.2
    · exact .inr (by omega)
  · rcases hlie with e | e
    · exact (hblk g e).1
    · omega
  · intro k hk
    rcases hk with rfl | rfl | rfl | ⟨x, hx, e⟩
    · exact .inl (hF _ (.inl rfl))
    · exact .inl (hF _ (.inr (.inl rfl)))
    · exact .inl (hF _ (.inr (.inr (.inl rfl))))
    · have hg := mget_of_mem hm2.nodup (show (x.1, x.2) ∈ _ by rw [← hlen]; exact hx)
      rw [mget_put] at hg
      split at hg
      · simp only [Option.some.injEq] at hg
        rw [← hg] at e
        have e : g = k := Option.some.inj (show some g = some k from e)
        subst e
        rcases hlie with e | e
        · exact .inl (hF g (hblk g e).2.2.2.2.1)
        · exact .inr (by omega)
      · exact .inl (hF k (.inr (.inr (.inr ⟨x, mget_mem hg, e⟩))))

set_option maxHeartbeats 2000000 in
theorem dev_write (h : Dv w p F s) (hd : s.dead = false) (i : Nat) (hi : i < s.hard.length) (b : ByteArray) (hb64 : b.size = 64) (hn : (s.rows i).length < 100000) (hw : IntKind.u64.wrap (s.writes + 1) = s.writes + 1) (hl : IntKind.i64.wrap (s.left - 1) = s.left - 1) :
    Calls Tryz.prog 107 #[.pointer (some ⟨p, 0, none⟩), .int .i64 i, .string b] w fun e w' => e = .returned (.int .i64 0) ∧ DvS w p F (wrS s i b) w' := by
  obtain ⟨hb, hc, m, L, h, hF⟩ := h
  have hh : dhas s i = true := by simp [dhas]; omega
  have hbs : (b.size : Int) = 64 := by omega
  have h4 := cl_of h.obj 4
  have hlk := h.look i
  obtain ⟨v, hro, hrow, hblk⟩ := h.row i
  rw [hro] at hlk
  obtain ⟨i0, ii, hz0, hz1, hz2⟩ := infoStr
  have hpl : p < w.heap.size := h.lt (.inl rfl)
  have hml : m < w.heap.size := h.lt (.inr (.inr (.inl rfl)))
  have hwf : (Lit.int .i64 i).wf = true := by
    have := h.pos
    simp [Lit.wf, IntKind.min, IntKind.signed, IntKind.bits]
    omega
  go_enter Tryz.func107, Tryz.ntmps107
  go_wp2_with fail
  refine (dev_ready h hd).mono ?_
  rintro e w1 ⟨rfl, rfl⟩
  go_wp2_with fail
  refine (dev_has h i true hh).mono ?_
  rintro e w1 ⟨rfl, rfl⟩
  go_upto_region 6 with (fail)
  have B0 : Below w.heap.size w w := Below.refl _ _
  have hK : ∀ W, Below w.heap.size w W → Wr w p m i v W := fun W => h.wr hro
  unfold Wr at hK
  have hrW : ∀ W, Below w.heap.size w W → W.ownsRow 0 9 1 v (s.rows i).length (sv (s.rows i)) := fun W hB => ownsRow_of_block hrow (fun k e => hB.block k (hblk k e).2.2.2.1)
  have hone : ∀ u ∈ [Value.string b], u.oneCell' = true := by simp [Value.oneCell']
  have h63 : (s.rows i).length + 1 ≤ maxLen := by unfold maxLen; omega
  have hby : ((s.rows i).length + 1) * 16 ≤ 140737488355328 := by omega
  have hput : ∀ W w1 g cap, Below w.heap.size w W → W.grownBy w1 v.ownBlock → ∃ w2, (Instr.mapUpdate 114 (.map (some m)) (.int .i64 i) (.agg #[.slice (some ⟨g, 0, none⟩) ((s.rows i).length + 1) cap])).run Tryz.prog w1 = .ok () w2 ∧ MapS w2 m .i64 (mput i (.agg #[.slice (some ⟨g, 0, none⟩) ((s.rows i).length + 1) cap]) L) ∧ w1.grownBy w2 (some m) := by
    intro W w1 g cap hB hg
    have hm1 : MapS w1 m .i64 L := (h.map.of_block (hB.block m hml)).of_block (hg.block m (by have := hB.size; omega) (fun e => (hblk m e.symm).2.2.1 rfl))
    exact hm1.put (t := 114) Tryz.underlying114 Tryz.underlying3 i hwf _
  have hS1 : ∀ W w1, Below w.heap.size w W → W.grownBy w1 v.ownBlock → w1.cell? ⟨p, 4, none⟩ = some (.map (some m)) := by
    intro W w1 hB hg
    rw [hg.cell_far ⟨p, 4, none⟩ (by have := hB.size; show p < _; omega) (fun e => (hblk p e.symm).2.1 rfl)]
    exact (hK W hB).2.1
  have k1 := (hK _ B0.drew).2
  have k2 := (hK _ (bal B0 (.cells #[.string b] 9)).drew).2
  have k3 := (hK _ (bal B0.drew (.cells #[.string b] 9))).2
  have k4 := (hK _ (bal B0 (.cells #[.string b] 9))).2
  go_cut [] (fun wx => MidW w p hb hc m F s i b wx)
  case first =>
    go_region_law (first | ((refine step_append_lies _ (by rfl) (.tmp 33) (.tmp 35) 33 (by rfl) 0 9 i0 (.string ByteArray.empty) 1 16 Tryz.underlying33 ii hz0 hz1 hz2 (by rfl) (by decide) v (s.rows i).length (sv (s.rows i)) (by rfl) (hrW _ (by first | exact B0.drew | exact bal B0.drew _ | exact (bal B0.drew _).drew | exact (bal B0 _).drew | exact bal B0 _ | exact B0)) ⟨_, 0, none⟩ 1 1 [.string b] (by rfl) (by rfl) (World.news_of_block (by first | exact hp_new _ _ rfl | exact hp_new _ _ (by simp))) hone (by decide) h63 hby (Nat.zero_le _) _ rfl ?_); intro g cap w1 hown hgrow hlie hglt; obtain ⟨w2, hr2, hm2, hg2⟩ := hput _ w1 g cap (by first | exact B0.drew | exact bal B0.drew _ | exact (bal B0.drew _).drew | exact (bal B0 _).drew | exact bal B0 _ | exact B0) hgrow; have hc1 := hS1 _ w1 (by first | exact B0.drew | exact bal B0.drew _ | exact (bal B0.drew _).drew | exact (bal B0 _).drew | exact bal B0 _ | exact B0) hgrow))
    all_goals
      go_wp2_with fail
      go_meet
      exact midW h hF hi hblk (by first | assumption | exact B0.drew | exact bal B0.drew _ | exact (bal B0.drew _).drew | exact (bal B0 _).drew | exact bal B0 _ | exact B0) hown hgrow hlie hm2 hg2
  case rest =>
    obtain ⟨L', h2, hf2, hF2⟩ := hcut
    have g5 : wc.cell? ⟨p, 5, none⟩ = some (.int .u64 s.writes) := cl_of h2.obj 5
    have f5 := fz_of h2.obj 5
    have g0 : wc.cell? ⟨p, 0, none⟩ = some (.bool s.armed) := cl_of h2.obj 0
    have g1 : wc.cell? ⟨p, 1, none⟩ = some (.int .i64 s.left) := cl_of h2.obj 1
    have f1 := fz_of h2.obj 1
    have g2 : wc.cell? ⟨p, 2, none⟩ = some (.bool s.dead) := cl_of h2.obj 2
    have f2 := fz_of h2.obj 2
    have ho := h2.obj
    have hop : ∀ k, dfoot p hb m L' k → k ≠ p → k < wc.heap.size := fun k hk _ => h2.lt hk
    have hpF : F p := hF p (.inl rfl)
    have hsz2 := hf2.size
    clear h4 hlk hrow hrW hK hput hS1 k1 k2 k3 k4 hone h63 hby hblk
    cases ha : s.armed
    · rw [ha] at g0
      go_wp2_with fail
      go_ret
      refine ⟨rfl, DvS.of h (hb' := hb) (hc' := hc) (L' := L') ?_ hF2 (hf2.setCell _ (.inr hpF) _)⟩
      have h3 := h2.obj' (W' := wc.setCell ⟨p, 5, none⟩ (.int .u64 (s.writes + 1))) (a := s.armed) (n := s.left) (d := s.dead) (wr := s.writes + 1) (blk_here ho 5 _) (fun k hk hkp => Below.heap_setCell wc _ _ k (by simpa using hkp))
      simpa [wrS, ha, hw] using h3
    · rw [ha] at g0
      go_wp2_with fail
      go_ret
      refine ⟨rfl, DvS.of h (hb' := hb) (hc' := hc) (L' := L') ?_ hF2 (((hf2.setCell _ (.inr hpF) _).setCell _ (.inr hpF) _).setCell _ (.inr hpF) _)⟩
      have h3 := h2.obj' (a := s.armed) (n := s.left - 1) (d := s.left - 1 == 0) (wr := s.writes + 1) (blk_here (blk_here (blk_here ho 5 (.int .u64 (s.writes + 1))) 1 (.int .i64 (s.left - 1))) 2 (.bool (s.left - 1 == 0))) (fun k hk hkp => ((Below.heap_setCell _ _ _ k (by simpa using hkp)).trans (Below.heap_setCell _ _ _ k (by simpa using hkp))).trans (Below.heap_setCell wc _ _ k (by simpa using hkp)))
      have e : wrS s i b = { s with armed := s.armed, left := s.left - 1, dead := s.left - 1 == 0, rows := setR s.rows i (s.rows i ++ [b]), writes := s.writes + 1 } := by
        unfold wrS
        rw [if_pos ha, if_pos ha]
        congr 1
      rw [e]
      exact h3
end
end Go.Proofs.YtjjphcnoegaimaaGreat
