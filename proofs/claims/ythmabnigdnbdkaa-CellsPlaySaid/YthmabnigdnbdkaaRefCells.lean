/- package lunetteref13: the document's cells: a row of pairs, a row of touches; the walks through its methods. -/
import Derived.Test.YthmabnigdnbdkaaCells
import Derived.BigQuiet
namespace Go.Proofs.Ythmabnigdnbdkaa
open Go.RowKit
set_option maxRecDepth 20000

/-- A pair's cells. -/
def pc (x : Int × Int) : List Value := [.int .u64 x.1, .int .i64 x.2]
def prs (L : List (Int × Int)) : List Value := L.flatMap pc
theorem prs_snoc (L : List (Int × Int)) (x : Int × Int) : prs (L ++ [x]) = prs L ++ pc x := by simp [prs]
theorem prs_length (L : List (Int × Int)) : (prs L).length = L.length * 2 := by
  induction L with
  | nil => rfl
  | cons t L ih => simp only [prs, List.flatMap_cons, List.length_append, List.length_cons] at ih ⊢; rw [ih]; simp [pc]; omega
theorem prs_get (L : List (Int × Int)) (j : Nat) (h : j < L.length) : (prs L)[j * 2]? = some (.int .u64 L[j].1) ∧ (prs L)[j * 2 + 1]? = some (.int .i64 L[j].2) := by
  induction L generalizing j with
  | nil => exact absurd h (by simp)
  | cons x l ih =>
    have e : prs (x :: l) = .int .u64 x.1 :: .int .i64 x.2 :: prs l := rfl
    cases j with
    | zero => rw [e]; exact ⟨rfl, rfl⟩
    | succ j =>
      have := ih j (by simpa using h)
      rw [e, show (j + 1) * 2 = j * 2 + 1 + 1 by omega, show j * 2 + 1 + 1 + 1 = (j * 2 + 1) + 1 + 1 by omega]
      simpa using this
theorem touches_get (S : List Touch) (j : Nat) (h : j < S.length) : (touches S)[j * 3]? = some (.int .i64 S[j].core) ∧ (touches S)[j * 3 + 1]? = some (.int .u64 S[j].cell) ∧ (touches S)[j * 3 + 2]? = some (.bool S[j].write) := by
  induction S generalizing j with
  | nil => exact absurd h (by simp)
  | cons x l ih =>
    have e : touches (x :: l) = .int .i64 x.core :: .int .u64 x.cell :: .bool x.write :: touches l := rfl
    cases j with
    | zero => rw [e]; exact ⟨rfl, rfl, rfl⟩
    | succ j =>
      have := ih j (by simpa using h)
      rw [e, show (j + 1) * 3 = j * 3 + 1 + 1 + 1 by omega, show j * 3 + 1 + 1 + 1 + 1 = (j * 3 + 1) + 1 + 1 + 1 by omega, show j * 3 + 1 + 1 + 1 + 2 = (j * 3 + 2) + 1 + 1 + 1 by omega]
      simpa using this

/-- The document's cells, at block q. -/
structure RefAt (W : World) (q : Nat) (vL vS : Value) (on : Bool) (L : List (Int × Int)) (S : List Touch) : Prop where
  obj : W.heap[q]? = some (.cells #[vL, vS, .bool on] 44 (0, 0))
  rowL : W.ownsRow 0 109 2 vL L.length (prs L)
  rowS : W.ownsRow 0 91 3 vS S.length (touches S)
def rfoot (q : Nat) (vL vS : Value) (k : Nat) : Prop := k = q ∨ vL.ownBlock = some k ∨ vS.ownBlock = some k
theorem RefAt.keep {W W' : World} {q : Nat} {vL vS : Value} {on : Bool} {L : List (Int × Int)} {S : List Touch} (h : RefAt W q vL vS on L S) (hb : ∀ k, rfoot q vL vS k → W'.heap[k]? = W.heap[k]?) : RefAt W' q vL vS on L S :=
  ⟨(hb _ (.inl rfl)).trans h.obj, ownsRow_of_block h.rowL fun k hk => hb k (.inr (.inl hk)), ownsRow_of_block h.rowS fun k hk => hb k (.inr (.inr hk))⟩
theorem RefAt.lt {W : World} {q : Nat} {vL vS : Value} {on : Bool} {L : List (Int × Int)} {S : List Touch} (h : RefAt W q vL vS on L S) {k : Nat} (hk : rfoot q vL vS k) : k < W.heap.size := by
  rcases hk with rfl | hk | hk
  · exact (Array.getElem?_eq_some_iff.1 h.obj).1
  · exact ownsRow_lt h.rowL hk
  · exact ownsRow_lt h.rowS hk
theorem RefAt.fr {W W' : World} {q : Nat} {vL vS : Value} {on : Bool} {L : List (Int × Int)} {S : List Touch} {T : Nat → Prop} (h : RefAt W q vL vS on L S) (hf : Fr T W W') (hd : ∀ k, rfoot q vL vS k → ¬ T k) : RefAt W' q vL vS on L S :=
  h.keep fun k hk => hf.block k (h.lt hk) (hd k hk)
theorem RefAt.alloc {W : World} {q : Nat} {vL vS : Value} {on : Bool} {L : List (Int × Int)} {S : List Touch} (h : RefAt W q vL vS on L S) (o : Obj) : RefAt (W.alloc o) q vL vS on L S :=
  h.keep fun _ hk => hp_old W o (h.lt hk)
theorem RefAt.Lq {W : World} {q : Nat} {vL vS : Value} {on : Bool} {L : List (Int × Int)} {S : List Touch} (h : RefAt W q vL vS on L S) : vL.ownBlock ≠ some q := by
  intro e
  obtain ⟨cur, hb⟩ := ownsRow_type h.rowL e
  rw [h.obj] at hb
  simp at hb
theorem RefAt.Sq {W : World} {q : Nat} {vL vS : Value} {on : Bool} {L : List (Int × Int)} {S : List Touch} (h : RefAt W q vL vS on L S) : vS.ownBlock ≠ some q := by
  intro e
  obtain ⟨cur, hb⟩ := ownsRow_type h.rowS e
  rw [h.obj] at hb
  simp at hb
theorem RefAt.LS {W : World} {q : Nat} {vL vS : Value} {on : Bool} {L : List (Int × Int)} {S : List Touch} (h : RefAt W q vL vS on L S) : ∀ k : Nat, vL.ownBlock = some k → vS.ownBlock ≠ some k := by
  intro k hk e
  obtain ⟨cur, hb⟩ := ownsRow_type h.rowS e
  obtain ⟨cur', hb'⟩ := ownsRow_type h.rowL hk
  rw [hb] at hb'
  simp at hb'

theorem own_form {W : World} {e : TypeId} {size : Nat} {v : Value} {n : Nat} {xs : List Value} (h : W.ownsRow 0 e size v n xs) : ∃ ao cap, v = .slice ao n cap ∧ (0 < n → ∃ g, ao = some ⟨g, 0, none⟩ ∧ v.ownBlock = some g ∧ g < W.heap.size ∧ ∀ j u, xs[j]? = some u → W.cell? ⟨g, j, none⟩ = some u) := by
  rcases h.2 with ⟨hv, hn⟩ | ⟨g, cap, cur, hv, _⟩
  · subst hv hn
    exact ⟨_, _, rfl, fun h => absurd h (by omega)⟩
  · exact ⟨_, cap, hv, fun _ => ⟨g, rfl, by rw [hv]; rfl, ownsRow_lt h (by rw [hv]; rfl), fun j u hj => ownsRow_cell h hv hj⟩⟩

set_option maxHeartbeats 1000000 in
theorem ref_peek {w : World} {q : Nat} {vL vS : Value} {on : Bool} {L : List (Int × Int)} {S : List Touch} (h : RefAt w q vL vS on L S) (k : Int) (hl : L.length ≤ 10000) :
    Calls Try.prog 27 #[.pointer (some ⟨q, 0, none⟩), .int .u64 k] w fun e w' => e = .returned (.int .i64 (nget k L)) ∧ w = w' := by
  obtain ⟨ao, cap, hv, hcs⟩ := own_form h.rowL
  have c0 := cl_of h.obj 0
  rw [hv] at c0
  go_enter Try.func27, Try.ntmps27
  go_wp2_with fail
  go_loop [5] (fun v5 => ∃ j : Nat, j ≤ L.length ∧ v5 = .int .i64 j ∧ Hid (nget k (L.drop j) = nget k L)) (fun v5 => L.length - (intOf v5).toNat)
  case atStart => exact ⟨0, by omega, rfl, Lib.hid rfl⟩
  case round =>
    obtain ⟨j, hj, rfl, HN⟩ := hrel
    by_cases hlt : j < L.length
    · obtain ⟨g, rfl, -, hg, hc⟩ := hcs (by omega)
      have z0 := hc _ _ (prs_get L j hlt).1
      have z1 := hc _ _ (prs_get L j hlt).2
      have hd : L.drop j = L[j] :: L.drop (j + 1) := List.drop_eq_getElem_cons hlt
      have HN' := HN.out
      rw [hd] at HN'
      generalize L[j] = x at z0 z1 HN'
      obtain ⟨a, b⟩ := x
      simp only [nget] at HN'
      have HNN := Lib.hid HN'
      clear HN' hd
      dsimp only at z0 z1
      by_cases hk : a = k
      · go_wp2_with fail
        go_ret
        have := HNN.out
        rw [if_pos hk.symm] at this
        exact ⟨by rw [← this]; rfl, rfl⟩
      · have := HNN.out
        rw [if_neg (fun e => hk e.symm)] at this
        have HM := Lib.hid this
        clear this
        go_wp2_with fail
        go_round
        case rel => exact ⟨j + 1, by omega, by go_num, HM⟩
        case measure => simp [intOf]; omega
    · obtain rfl : j = L.length := by omega
      have := HN.out
      rw [List.drop_length] at this
      have HM := Lib.hid this
      clear this HN
      go_wp2_with fail
      go_ret
      exact ⟨by rw [← HM.out]; rfl, rfl⟩

/-- What a step of the document's cells leaves. -/
def RStep (w : World) (q : Nat) (vL vS : Value) (on : Bool) (L : List (Int × Int)) (S : List Touch) (w' : World) : Prop :=
  ∃ vL' vS', RefAt w' q vL' vS' on L S ∧ Fr (rfoot q vL vS) w w' ∧ svstep w vL vL' ∧ svstep w vS vS'
theorem svstep.trans {w w1 : World} {a b c : Value} (h1 : svstep w a b) (h2 : svstep w1 b c) (hs : w.heap.size ≤ w1.heap.size) : svstep w a c := by
  rcases h2 with e | ⟨g, hg, hl⟩
  · rcases h1 with e1 | ⟨g, hg, hl⟩
    · exact .inl (e.trans e1)
    · exact .inr ⟨g, e.trans hg, hl⟩
  · exact .inr ⟨g, hg, by omega⟩
theorem RStep.refl {w : World} {q : Nat} {vL vS : Value} {on : Bool} {L : List (Int × Int)} {S : List Touch} (h : RefAt w q vL vS on L S) : RStep w q vL vS on L S w := ⟨vL, vS, h, Fr.refl _ _, .inl rfl, .inl rfl⟩
theorem RStep.trans {w w1 w2 : World} {q : Nat} {vL vS : Value} {on : Bool} {L L2 : List (Int × Int)} {S S2 : List Touch} (h1 : ∃ vL1 vS1, (RefAt w1 q vL1 vS1 on L S ∧ Fr (rfoot q vL vS) w w1 ∧ svstep w vL vL1 ∧ svstep w vS vS1) ∧ RStep w1 q vL1 vS1 on L2 S2 w2) : RStep w q vL vS on L2 S2 w2 := by
  obtain ⟨vL1, vS1, ⟨a, b, c, d⟩, vL2, vS2, a2, b2, c2, d2⟩ := h1
  have hsz := b.size
  refine ⟨vL2, vS2, a2, ⟨b2.os.trans b.os, b2.tape.trans b.tape, b2.output.trans b.output, by have := b2.size; omega, fun k hk hn => ?_⟩, c.trans c2 hsz, d.trans d2 hsz⟩
  refine (b2.block k (by omega) ?_).trans (b.block k hk hn)
  rintro (rfl | hg | hg)
  · exact hn (.inl rfl)
  · rcases c with c | ⟨g, hg', hl⟩
    · exact hn (.inr (.inl (c ▸ hg)))
    · rw [hg] at hg'; cases hg'; omega
  · rcases d with d | ⟨g, hg', hl⟩
    · exact hn (.inr (.inr (d ▸ hg)))
    · rw [hg] at hg'; cases hg'; omega

set_option maxHeartbeats 400000 in
theorem ref_touch_off {w : World} {q : Nat} {vL vS : Value} {L : List (Int × Int)} {S : List Touch} (h : RefAt w q vL vS false L S) (core cell : Int) (wr : Bool) :
    Calls Try.prog 57 #[.pointer (some ⟨q, 0, none⟩), .int .i64 core, .int .u64 cell, .bool wr] w fun e w' => e = .returned (.tuple #[]) ∧ w = w' := by
  have h2 := cl_of h.obj 2
  go_enter Try.func57, Try.ntmps57
  go_wp2_with fail
  go_end0
  exact ⟨rfl, rfl⟩

set_option maxHeartbeats 400000 in
theorem ref_touch_on {w : World} {q : Nat} {vL vS : Value} {L : List (Int × Int)} {S : List Touch} (h : RefAt w q vL vS true L S) (hn : Few S) (core cell : Int) (wr : Bool) :
    Calls Try.prog 57 #[.pointer (some ⟨q, 0, none⟩), .int .i64 core, .int .u64 cell, .bool wr] w fun e w' => e = .returned (.tuple #[]) ∧ RStep w q vL vS true L (S ++ [⟨core, cell, wr⟩]) w' := by
  have h1 := cl_of h.obj 1
  have h2 := cl_of h.obj 2
  obtain ⟨i0, hi, hz0, hz1, hz2⟩ := info_parts Try.infoTouch
  go_enter Try.func57, Try.ntmps57
  go_wp2_with (at_builtin; refine wpList_append_row _ rfl (.tmp 16) (.tmp 21) 42 rfl 91 i0 _ 3 24 Try.underlying42 hi hz0 hz1 hz2 rfl (by decide) vS S.length (touches S) rfl (h.alloc _).rowS ⟨w.heap.size, 0, none⟩ 1 1 (tc ⟨core, cell, wr⟩) rfl rfl ?_ ?_ ?_ ?_ ?_)
  · intro j u hj
    rw [Addr.add_lit, Nat.zero_add, cl_of (hp_new w _ rfl)]
    simpa [tc] using hj
  · intro u hu
    simp only [tc, List.mem_cons, List.not_mem_nil, or_false] at hu
    rcases hu with rfl | rfl | rfl <;> rfl
  · have := hn.out
    simp only [maxLen]
    omega
  · have := hn.out
    omega
  intro sv' w' hrow hg hst
  have hpl := h.lt (.inl rfl)
  have hsz : (w.alloc (.cells #[.int .i64 core, .int .u64 cell, .bool wr] 91 (0, 0))).heap.size = w.heap.size + 1 := by simp
  have hp : w'.heap[q]? = some (.cells #[vL, vS, .bool true] 44 (0, 0)) := (hg.block q (by omega) h.Sq.symm).trans ((hp_old w _ hpl).trans h.obj)
  have c1 := cl_of hp 1
  have z1 := fz_of hp 1
  have hne : sv'.ownBlock ≠ some q := by
    intro e
    obtain ⟨cur, hb⟩ := ownsRow_type hrow e
    rw [hp] at hb
    simp at hb
  obtain ⟨ao, an, ac, hsv⟩ : ∃ ao an ac, sv' = .slice ao an ac := by
    rcases hrow.2 with ⟨e, _⟩ | ⟨g, cap, cur, e, _⟩ <;> exact ⟨_, _, _, e⟩
  rw [hsv]
  go_wp2_with fail
  go_end0
  rw [← hsv]
  refine ⟨rfl, vL, sv', ⟨?_, ?_, ?_⟩, ?_, .inl rfl, ?_⟩
  · exact heap_set_here hp 1 sv'
  · refine ownsRow_of_block h.rowL fun k hk => (Below.heap_setCell w' _ _ k ?_).trans ((hg.block k ?_ (fun e => h.LS k hk e.symm)).trans (hp_old w _ (h.lt (.inr (.inl hk)))))
    · rintro rfl; exact h.Lq hk
    · have := h.lt (.inr (.inl hk)); omega
  · rw [touches_snoc, List.length_append]
    refine ownsRow_of_block hrow (fun k hk => Below.heap_setCell w' _ _ k ?_)
    rintro rfl
    exact hne hk
  · refine ⟨hg.os, hg.tape, hg.output, ?_, ?_⟩
    · have := hg.size
      simp only [World.setCell, Array.size_modify]
      omega
    · intro k hk hnt
      have hkp : k ≠ q := fun e => hnt (.inl e)
      refine (Below.heap_setCell w' _ _ k hkp).trans ((hg.block k (by omega) ?_).trans (hp_old w _ hk))
      exact fun e => hnt (.inr (.inr e.symm))
  · rcases hst with h' | ⟨g, h1, h2, h3⟩
    · exact .inl h'
    · exact .inr ⟨g, h1, by omega⟩
theorem ref_touch {w : World} {q : Nat} {vL vS : Value} {on : Bool} {L : List (Int × Int)} {S : List Touch} (h : RefAt w q vL vS on L S) (hn : Few S) (core cell : Int) (wr : Bool) :
    Calls Try.prog 57 #[.pointer (some ⟨q, 0, none⟩), .int .i64 core, .int .u64 cell, .bool wr] w fun e w' => e = .returned (.tuple #[]) ∧ RStep w q vL vS on L (logged on S ⟨core, cell, wr⟩) w' := by
  cases on with
  | false => exact (ref_touch_off h core cell wr).mono fun e w' ⟨he, hw⟩ => by subst hw; exact ⟨he, RStep.refl h⟩
  | true => exact ref_touch_on h hn core cell wr

theorem Try.infoRCell : (Try.prog.info? 109).map (fun i => (i.zero, i.size, i.bytes)) = some (some (.agg #[.int .u64 0, .int .i64 0]), 2, 16) := by kernel_rfl

/-- The pairs behind a number is set. -/
def lrest (k : Int) (L : List (Int × Int)) : List (Int × Int) := L.filter (fun x => x.1 ≠ k)
def lset (k v : Int) (L : List (Int × Int)) : List (Int × Int) := lrest k L ++ [(k, v)]
theorem lrest_len (k : Int) (L : List (Int × Int)) : (lrest k L).length ≤ L.length := List.length_filter_le _ L
theorem lrest_eq {k a : Int} (b : Int) (L : List (Int × Int)) (h : a = k) : lrest k (L ++ [(a, b)]) = lrest k L := by simp [lrest, h]
theorem lrest_ne {k a : Int} (b : Int) (L : List (Int × Int)) (h : ¬ a = k) : lrest k (L ++ [(a, b)]) = lrest k L ++ [(a, b)] := by simp [lrest, h]
theorem nget_lset (k j v : Int) (L : List (Int × Int)) : nget j (lset k v L) = if j = k then v else nget j L := by
  unfold lset lrest
  induction L with
  | nil => simp [nget]
  | cons x l ih =>
    obtain ⟨a, u⟩ := x
    by_cases h : a = k
    · subst h
      rw [List.filter_cons_of_neg (by simp), ih]
      by_cases hj : j = a <;> simp [nget, hj]
    · rw [List.filter_cons_of_pos (by simpa using h), List.cons_append]
      simp only [nget]
      rw [ih]
      by_cases hj : j = a
      · subst hj; simp [h]
      · simp [hj]
theorem lset_length (k v : Int) (L : List (Int × Int)) : (lset k v L).length ≤ L.length + 1 := by
  have := lrest_len k L
  simp only [lset, List.length_append, List.length_cons, List.length_nil]
  omega


theorem ownsRowB_of_block {W W' : World} {B : Nat} {e : TypeId} {size : Nat} {v : Value} {n : Nat} {xs : List Value} (h : W.ownsRow B e size v n xs) (hb : ∀ k, v.ownBlock = some k → W'.heap[k]? = W.heap[k]?) : W'.ownsRow B e size v n xs := by
  obtain ⟨hlen, hrow⟩ := h
  refine ⟨hlen, ?_⟩
  rcases hrow with h' | ⟨g, cap, cur, rfl, h0, hh, hr⟩
  · exact .inl h'
  · exact .inr ⟨g, cap, cur, rfl, h0, (hb g rfl).trans hh, hr⟩
theorem ownsRowB_ge {W : World} {B : Nat} {e : TypeId} {size : Nat} {v : Value} {n : Nat} {xs : List Value} (h : W.ownsRow B e size v n xs) {k : Nat} (hk : v.ownBlock = some k) : B ≤ k ∧ k < W.heap.size := by
  rcases h.2 with ⟨rfl, _⟩ | ⟨g, cap, cur, rfl, h0, hh, hr⟩
  · cases hk
  · cases hk
    exact ⟨h0, (Array.getElem?_eq_some_iff.1 hh).1⟩
theorem ownsRowB_alloc {W : World} {B : Nat} {e : TypeId} {size : Nat} {v : Value} {n : Nat} {xs : List Value} (h : W.ownsRow B e size v n xs) (o : Obj) : (W.alloc o).ownsRow B e size v n xs :=
  ownsRowB_of_block h fun _ hk => hp_old W o (ownsRowB_ge h hk).2
theorem ownsRowB_zero {W : World} {B : Nat} {e : TypeId} {size : Nat} {v : Value} {n : Nat} {xs : List Value} (h : W.ownsRow B e size v n xs) : W.ownsRow 0 e size v n xs := by
  obtain ⟨hlen, hrow⟩ := h
  refine ⟨hlen, ?_⟩
  rcases hrow with h' | ⟨g, cap, cur, rfl, h0, hh, hr⟩
  · exact .inl h'
  · exact .inr ⟨g, cap, cur, rfl, Nat.zero_le _, hh, hr⟩
/-- A row of the call's own is appended to: nothing that lay ahead turns. -/
theorem fr_grown {w wr w' : World} {v : Value} {o : Obj} (hf : Fr (fun _ => False) w wr) (hg : (wr.alloc o).grownBy w' v.ownBlock) (hb : ∀ k, v.ownBlock = some k → w.heap.size ≤ k) : Fr (fun _ => False) w w' := by
  have hsz := hf.size
  have h1 : (wr.alloc o).heap.size = wr.heap.size + 1 := by simp
  refine ⟨hg.os.trans hf.os, hg.tape.trans hf.tape, hg.output.trans hf.output, by have := hg.size; omega, fun k hk hn => ?_⟩
  refine (hg.block k (by omega) fun e => ?_).trans ((hp_old wr o (by omega)).trans (hf.block k hk hn))
  have := hb k e.symm
  omega

set_option maxHeartbeats 2000000 in
theorem ref_set {w : World} {q : Nat} {vL vS : Value} {on : Bool} {L : List (Int × Int)} {S : List Touch} (h : RefAt w q vL vS on L S) (k v : Int) (hl : L.length ≤ 10000) :
    Calls Try.prog 58 #[.pointer (some ⟨q, 0, none⟩), .int .u64 k, .int .i64 v] w fun e w' => e = .returned (.tuple #[]) ∧ RStep w q vL vS on (lset k v L) S w' := by
  obtain ⟨ao, cap, hv, hcs⟩ := own_form h.rowL
  have hkeep : ∀ W, Fr (fun _ => False) w W → W.cell? ⟨q, 0, none⟩ = some vL := fun W hf => (hf.cell (p := ⟨q, 0, none⟩) (h.lt (.inl rfl)) id).trans (cl_of h.obj 0)
  obtain ⟨i0, hi, hz0, hz1, hz2⟩ := info_parts Try.infoRCell
  go_enter Try.func58, Try.ntmps58
  go_wp2_with fail
  go_loopw [6, 7] (fun v6 v7 wr => ∃ j : Nat, j ≤ L.length ∧ v7 = .int .i64 j ∧ wr.ownsRow w.heap.size 109 2 v6 (lrest k (L.take j)).length (prs (lrest k (L.take j))) ∧ Fr (fun _ => False) w wr) (fun _ v7 _ => L.length - (intOf v7).toNat)
  case atStart => exact ⟨0, by omega, rfl, ⟨rfl, .inl ⟨rfl, rfl⟩⟩, Fr.refl _ _⟩
  case round =>
    obtain ⟨j, hj, rfl, hrow, hf⟩ := hrel
    have c0 := hkeep _ hf
    rw [hv] at c0
    by_cases hlt : j < L.length
    · obtain ⟨g, rfl, -, hg, hc⟩ := hcs (by omega)
      have z0 := (hf.cell (p := ⟨g, j * 2, none⟩) hg id).trans (hc _ _ (prs_get L j hlt).1)
      have z1 := (hf.cell (p := ⟨g, j * 2 + 1, none⟩) hg id).trans (hc _ _ (prs_get L j hlt).2)
      have hd : L.take (j + 1) = L.take j ++ [L[j]] := by rw [List.take_succ_eq_append_getElem hlt]
      generalize L[j] = x at z0 z1 hd
      obtain ⟨a, b⟩ := x
      dsimp only at z0 z1
      by_cases hk : a = k
      · go_wp2_with fail
        go_roundw
        case rel =>
          refine ⟨j + 1, by omega, by go_num, ?_, hf⟩
          rw [hd, lrest_eq b _ hk]
          exact hrow
        case measure => simp [intOf]; omega
      · have hfl := lrest_len k (L.take j)
        have hfk : (L.take j).length ≤ L.length := by simp; omega
        have hbk := fun kk h => (ownsRowB_ge hrow (k := kk) h).1
        have hfs := hf.size
        go_wp2_with (at_builtin; refine wpList_append_own _ rfl (.tmp 27) (.tmp 35) 41 rfl w.heap.size 109 i0 _ 2 16 Try.underlying41 hi hz0 hz1 hz2 rfl (by decide) _ _ _ rfl (ownsRowB_alloc hrow _) ⟨wr.heap.size, 0, none⟩ 1 1 (pc (a, b)) rfl rfl ?_ ?_ ?_ ?_ ?_ ?_)
        · intro i u hi
          rw [Addr.add_lit, Nat.zero_add, cl_of (hp_new wr _ rfl)]
          simpa [pc] using hi
        · intro u hu
          simp only [pc, List.mem_cons, List.not_mem_nil, or_false] at hu
          rcases hu with rfl | rfl <;> rfl
        · simp only [maxLen]; omega
        · omega
        · simp; omega
        intro v' w' hrow' hg' _
        have hf' := fr_grown hf hg' hbk
        go_wp2_with fail
        go_roundw
        case rel =>
          refine ⟨j + 1, by omega, by go_num, ?_, hf'⟩
          rw [hd, lrest_ne b _ hk, List.length_append, prs_snoc]
          exact hrow'
        case measure => simp [intOf]; omega
    · obtain rfl : j = L.length := by omega
      rw [List.take_length] at hrow
      have hfl := lrest_len k L
      have hbk := fun kk h => (ownsRowB_ge hrow (k := kk) h).1
      have hfs := hf.size
      clear hcs
      go_wp2_with (at_builtin; refine wpList_append_own _ rfl (.tmp 38) (.tmp 42) 41 rfl w.heap.size 109 i0 _ 2 16 Try.underlying41 hi hz0 hz1 hz2 rfl (by decide) _ _ _ rfl (ownsRowB_alloc hrow _) ⟨wr.heap.size, 0, none⟩ 1 1 (pc (k, v)) rfl rfl ?_ ?_ ?_ ?_ ?_ ?_)
      · intro i u hi
        rw [Addr.add_lit, Nat.zero_add, cl_of (hp_new wr _ rfl)]
        simpa [pc] using hi
      · intro u hu
        simp only [pc, List.mem_cons, List.not_mem_nil, or_false] at hu
        rcases hu with rfl | rfl <;> rfl
      · simp only [maxLen]; omega
      · omega
      · simp; omega
      intro v' w' hrow' hg' _
      have hf' := fr_grown hf hg' hbk
      have hp := (hf'.block q (h.lt (.inl rfl)) id).trans h.obj
      have c1 := cl_of hp 0
      have zz := fz_of hp 0
      have hne : v'.ownBlock ≠ some q := fun e => by have := (ownsRowB_ge hrow' e).1; have := h.lt (.inl rfl); omega
      obtain ⟨ao', cap', hv', _⟩ := own_form (ownsRowB_zero hrow')
      have hrow2 := ownsRowB_zero hrow'
      rw [hv']
      go_wp2_with fail
      go_end0
      rw [← hv']
      refine ⟨rfl, v', vS, ⟨heap_set_here hp 0 v', ?_, ?_⟩, ?_, ?_, .inl rfl⟩
      · rw [lset, List.length_append, prs_snoc]
        refine ownsRow_of_block hrow2 (fun k hk => Below.heap_setCell w' _ _ k ?_)
        rintro rfl
        exact hne hk
      · refine ownsRow_of_block h.rowS fun k hk => (Below.heap_setCell w' _ _ k ?_).trans (hf'.block k (h.lt (.inr (.inr hk))) id)
        rintro rfl; exact h.Sq hk
      · refine ⟨hf'.os, hf'.tape, hf'.output, ?_, ?_⟩
        · have := hf'.size
          simp only [World.setCell, Array.size_modify]
          omega
        · intro k hk hnt
          have hkp : k ≠ q := fun e => hnt (.inl e)
          exact (Below.heap_setCell w' _ _ k hkp).trans (hf'.block k hk id)
      · rcases hrow2.2 with ⟨e, he⟩ | ⟨g, cap, cur, e, _⟩
        · simp at he
        · exact .inr ⟨g, by rw [e]; rfl, (ownsRowB_ge hrow' (k := g) (by rw [e]; rfl)).1⟩

set_option maxHeartbeats 400000 in
theorem ref_read {w : World} {q : Nat} {vL vS : Value} {on : Bool} {L : List (Int × Int)} {S : List Touch} (h : RefAt w q vL vS on L S) (hn : Few S) (hl : L.length ≤ 10000) (core cell : Int) :
    Calls Try.prog 21 #[.pointer (some ⟨q, 0, none⟩), .int .i64 core, .int .u64 cell] w fun e w' => e = .returned (.int .i64 (nget cell L)) ∧ RStep w q vL vS on L (logged on S ⟨core, cell, false⟩) w' := by
  go_enter Try.func21, Try.ntmps21
  go_wp2_with fail
  refine (ref_touch h hn core cell false).mono ?_
  rintro e w' ⟨rfl, vL1, vS1, hst⟩
  go_wp2_with fail
  refine (ref_peek hst.1 cell hl).mono ?_
  rintro e w2 ⟨rfl, rfl⟩
  go_wp2_with fail
  go_ret
  exact ⟨rfl, vL1, vS1, hst⟩

set_option maxHeartbeats 400000 in
theorem ref_write {w : World} {q : Nat} {vL vS : Value} {on : Bool} {L : List (Int × Int)} {S : List Touch} (h : RefAt w q vL vS on L S) (hn : Few S) (hl : L.length ≤ 10000) (core cell v : Int) :
    Calls Try.prog 23 #[.pointer (some ⟨q, 0, none⟩), .int .i64 core, .int .u64 cell, .int .i64 v] w fun e w' => e = .returned (.tuple #[]) ∧ RStep w q vL vS on (lset cell v L) (logged on S ⟨core, cell, true⟩) w' := by
  go_enter Try.func23, Try.ntmps23
  go_wp2_with fail
  refine (ref_touch h hn core cell true).mono ?_
  rintro e w' ⟨rfl, vL1, vS1, hst⟩
  go_wp2_with fail
  refine (ref_set hst.1 cell v hl).mono ?_
  rintro e w2 ⟨rfl, hst2⟩
  go_wp2_with fail
  go_end0
  exact ⟨rfl, RStep.trans ⟨vL1, vS1, hst, hst2⟩⟩

set_option maxHeartbeats 400000 in
theorem ref_add {w : World} {q : Nat} {vL vS : Value} {on : Bool} {L : List (Int × Int)} {S : List Touch} (h : RefAt w q vL vS on L S) (hn : Few S) (hl : L.length ≤ 10000) (core cell v : Int) :
    Calls Try.prog 24 #[.pointer (some ⟨q, 0, none⟩), .int .i64 core, .int .u64 cell, .int .i64 v] w fun e w' => e = .returned (.int .i64 (nget cell L)) ∧ RStep w q vL vS on (lset cell (wrap64 (nget cell L + v)) L) (logged on S ⟨core, cell, true⟩) w' := by
  go_enter Try.func24, Try.ntmps24
  go_wp2_with fail
  refine (ref_touch h hn core cell true).mono ?_
  rintro e w' ⟨rfl, vL1, vS1, hst⟩
  go_wp2_with fail
  refine (ref_peek hst.1 cell hl).mono ?_
  rintro e w2 ⟨rfl, rfl⟩
  go_wp2_with fail
  refine (ref_set hst.1 cell (wrap64 (nget cell L + v)) hl).mono ?_
  rintro e w2 ⟨rfl, hst2⟩
  go_wp2_with fail
  go_ret
  exact ⟨rfl, RStep.trans ⟨vL1, vS1, hst, hst2⟩⟩

set_option maxHeartbeats 1000000 in
theorem ref_same {w : World} {va vb : Value} {S : List Touch} (ha : w.ownsRow 0 91 3 va S.length (touches S)) (hb : w.ownsRow 0 91 3 vb S.length (touches S)) (hn : Few S) :
    Calls Try.prog 28 #[va, vb] w fun e w' => e = .returned (.bool true) ∧ Fr (fun _ => False) w w' := by
  obtain ⟨aa, ca, rfl, hca⟩ := own_form ha
  obtain ⟨ab, cb, rfl, hcb⟩ := own_form hb
  have hS := hn.out
  go_enter Try.func28, Try.ntmps28
  go_wp2_with fail
  go_loopw [5] (fun v5 wr => ∃ j : Nat, j ≤ S.length ∧ v5 = .int .i64 j ∧ Fr (fun _ => False) w wr) (fun v5 _ => S.length - (intOf v5).toNat)
  case atStart => exact ⟨0, by omega, rfl, Fr.refl _ _⟩
  case round =>
    obtain ⟨j, hj, rfl, hf⟩ := hrel
    by_cases hlt : j < S.length
    · obtain ⟨g, rfl, -, hg, hc⟩ := hca (by omega)
      obtain ⟨g2, rfl, -, hg2, hc2⟩ := hcb (by omega)
      have t := touches_get S j hlt
      generalize S[j] = x at t
      obtain ⟨xa, xb, xc⟩ := x
      dsimp only at t
      have a0 := (hf.cell (p := ⟨g, j * 3, none⟩) hg id).trans (hc _ _ t.1)
      have a1 := (hf.cell (p := ⟨g, j * 3 + 1, none⟩) hg id).trans (hc _ _ t.2.1)
      have a2 := (hf.cell (p := ⟨g, j * 3 + 2, none⟩) hg id).trans (hc _ _ t.2.2)
      have b0 := (hf.cell (p := ⟨g2, j * 3, none⟩) hg2 id).trans (hc2 _ _ t.1)
      have b1 := (hf.cell (p := ⟨g2, j * 3 + 1, none⟩) hg2 id).trans (hc2 _ _ t.2.1)
      have b2 := (hf.cell (p := ⟨g2, j * 3 + 2, none⟩) hg2 id).trans (hc2 _ _ t.2.2)
      clear hca hcb hc hc2 t
      go_wp2_with fail
      go_region
      first | (rename_i hK; refine hK _ _ ?_; clear hK) | (rename_i hK _; refine hK _ _ ?_; clear hK) | (rename_i hK _ _; refine hK _ _ ?_; clear hK)
      go_wp2_with fail
      go_roundw
      case rel => exact ⟨j + 1, by omega, by go_num, hf.drew⟩
      case measure => simp [intOf]; omega
    · obtain rfl : j = S.length := by omega
      go_wp2_with fail
      go_ret
      exact ⟨rfl, hf⟩

theorem touch_nil (w : World) (a : Option Addr) (n c : Nat) : (binOp .eql 42 (.slice a n c) (.slice none 0 0)).run Try.prog w = .ok (.bool a.isNone) w := Lib.run_eql_slice_nil w _ _ a n c 0 0 Try.underlying42
/-- Where nothing was noted as yet. -/
theorem clone_nil (w : World) : Calls Try.prog 60 #[.slice none 0 0] w fun e w' => e = .returned (.slice none 0 0) ∧ w = w' := by
  have hz := touch_nil
  go_enter Try.func60, Try.ntmps60
  go_wp2_with fail
  go_ret
  exact ⟨rfl, rfl⟩
set_option maxHeartbeats 400000 in
theorem clone_some (w : World) (g cap : Nat) {S : List Touch} (h : w.ownsRow 0 91 3 (.slice (some ⟨g, 0, none⟩) S.length cap) S.length (touches S)) (hn : Few S) :
    Calls Try.prog 60 #[.slice (some ⟨g, 0, none⟩) S.length cap] w fun e w' => ∃ v, e = .returned v ∧ w'.ownsRow w.heap.size 91 3 v S.length (touches S) ∧ Fr (fun _ => False) w w' := by
  have hz := touch_nil
  obtain ⟨i0, hi, hz0, hz1, hz2⟩ := info_parts Try.infoTouch
  go_enter Try.func60, Try.ntmps60
  have hown : (w.alloc (.cells #[] 91 (0, 0))).ownsRow w.heap.size 91 3 (.slice (some ⟨w.heap.size, 0, none⟩) 0 0) 0 [] := ⟨by simp, .inr ⟨w.heap.size, 0, #[], rfl, Nat.le_refl _, hp_new _ _ rfl, Nat.le_refl _, Nat.zero_le _, by simp, by simp⟩⟩
  go_wp2_with (at_builtin; refine wpList_append_own _ rfl (.tmp 5) (.tmp 6) 42 rfl w.heap.size 91 i0 _ 3 24 Try.underlying42 hi hz0 hz1 hz2 rfl (by decide) _ 0 [] rfl hown ⟨g, 0, none⟩ S.length cap (touches S) rfl (touches_length S) ?_ ?_ ?_ ?_ ?_ ?_)
  · intro j u hj
    rw [Addr.add_lit, Nat.zero_add]
    exact ownsRow_cell (ownsRowB_alloc h _) rfl hj
  · intro u hu
    simp only [touches, List.mem_flatMap] at hu
    obtain ⟨t, -, hu⟩ := hu
    simp only [tc, List.mem_cons, List.not_mem_nil, or_false] at hu
    rcases hu with rfl | rfl | rfl <;> rfl
  · have := hn.out
    simp only [maxLen]
    omega
  · have := hn.out
    omega
  · simp
  intro v' w' hrow hg _
  have hf := fr_grown (Fr.refl (fun _ => False) w) hg (fun k hk => (ownsRowB_ge hown hk).1)
  obtain ⟨ao, cap', hv, _⟩ := own_form (ownsRowB_zero hrow)
  rw [hv] at hrow ⊢
  go_wp2_with fail
  go_ret
  exact ⟨_, rfl, hrow, hf⟩
theorem clone_any {w : World} {v : Value} {S : List Touch} (h : w.ownsRow 0 91 3 v S.length (touches S)) (hn : Few S) :
    Calls Try.prog 60 #[v] w fun e w' => ∃ v', e = .returned v' ∧ w'.ownsRow w.heap.size 91 3 v' S.length (touches S) ∧ Fr (fun _ => False) w w' := by
  rcases h.2 with ⟨e, hn0⟩ | ⟨g, cap, cur, e, _⟩
  · subst e
    have : S = [] := List.length_eq_zero_iff.1 hn0
    subst this
    refine (clone_nil w).mono ?_
    rintro e w' ⟨rfl, rfl⟩
    exact ⟨_, rfl, ⟨rfl, .inl ⟨rfl, rfl⟩⟩, Fr.refl _ _⟩
  · rw [e] at h ⊢
    exact clone_some w g cap h hn

set_option maxHeartbeats 400000 in
theorem cells_seen {w : World} {p m : Nat} {sv : Value} {on : Bool} {N : List (Int × Int)} {S : List Touch} (h : CellsAt w p m sv on N S) (hn : Few S) :
    Calls Try.prog 29 #[.pointer (some ⟨p, 0, none⟩)] w fun e w' => ∃ v', e = .returned v' ∧ w'.ownsRow w.heap.size 91 3 v' S.length (touches S) ∧ Fr (fun _ => False) w w' := by
  have h1 := cl_of h.obj 1
  obtain ⟨ao, cap, hv, _⟩ := own_form h.row
  rw [hv] at h1
  have hr := h.row
  rw [hv] at hr
  go_enter Try.func29, Try.ntmps29
  go_wp2_with fail
  refine (clone_any hr hn).mono ?_
  rintro e w' ⟨v', rfl, hrow, hf⟩
  obtain ⟨ao', cap', hv', _⟩ := own_form (ownsRowB_zero hrow)
  rw [hv'] at hrow ⊢
  go_wp2_with fail
  go_ret
  exact ⟨_, rfl, hrow, hf⟩

set_option maxHeartbeats 400000 in
theorem cells_note {w : World} {p m : Nat} {sv : Value} {on : Bool} {N : List (Int × Int)} {S : List Touch} (h : CellsAt w p m sv on N S) (b : Bool) :
    Calls Try.prog 14 #[.pointer (some ⟨p, 0, none⟩), .bool b] w fun e w' => e = .returned (.tuple #[]) ∧ CStep w p m sv b N S w' := by
  have h2 := cl_of h.obj 2
  have z2 := fz_of h.obj 2
  go_enter Try.func14, Try.ntmps14
  go_wp2_with fail
  go_end0
  refine ⟨rfl, sv, ⟨heap_set_here h.obj 2 _, h.map.of_block (Below.heap_setCell w _ _ m h.pm), ownsRow_of_block h.row fun k hk => Below.heap_setCell w _ _ k ?_⟩, ?_, .inl rfl⟩
  · rintro rfl; exact h.rp hk
  · exact (Fr.refl (cfoot p m sv) w).setCell ⟨p, 2, none⟩ (.inr (.inl rfl)) _
end Go.Proofs.Ythmabnigdnbdkaa
