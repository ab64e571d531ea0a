/- What a transaction has written, by sectors rising: plain laws; a map that is it. Package tx: Begin, open, Read, Write, Room, Abort. -/
import Derived.Test.YtjjphcnoegaimaaGreatGA
import Derived.Test.YtjjphcnoegaimaaGreatGM
import Derived.Test.YtjjphcnoegaimaaGreatGL
namespace Go.Proofs.YtjjphcnoegaimaaGreat
open Go.RowKit Go.Maps
set_option linter.unusedVariables false

/-- What was written to sectors, rising. -/
abbrev Wl := List (Int × ByteArray)
def pget (k : Int) : Wl → Option ByteArray
  | [] => none
  | (a, b) :: M => if k = a then some b else pget k M
def pins (k : Int) (b : ByteArray) : Wl → Wl
  | [] => [(k, b)]
  | (a, c) :: M => if a < k then (a, c) :: pins k b M else if a = k then (k, b) :: M else (k, b) :: (a, c) :: M
def Rising (M : Wl) : Prop := M.Pairwise (fun x y => x.1 < y.1)
theorem Rising.tail {x : Int × ByteArray} {M : Wl} (h : Rising (x :: M)) : Rising M := (List.pairwise_cons.1 h).2
theorem pget_mem {k : Int} {b : ByteArray} : ∀ {M : Wl}, pget k M = some b → (k, b) ∈ M
  | [], h => by cases h
  | (a, c) :: M, h => by
    unfold pget at h
    split at h
    · rename_i e
      cases h
      subst e
      exact List.mem_cons_self
    · exact List.mem_cons_of_mem _ (pget_mem h)
theorem mem_pget {k : Int} {b : ByteArray} : ∀ {M : Wl}, Rising M → (k, b) ∈ M → pget k M = some b
  | [], _, h => by cases h
  | (a, c) :: M, hr, h => by
    unfold pget
    rcases List.mem_cons.1 h with e | h1
    · cases e; simp
    · have := (List.pairwise_cons.1 hr).1 _ h1
      dsimp only at this
      rw [if_neg (by omega)]
      exact mem_pget hr.tail h1
theorem pget_none {k : Int} {M : Wl} : pget k M = none ↔ k ∉ M.map Prod.fst := by
  induction M with
  | nil => simp [pget]
  | cons x M ih =>
    obtain ⟨a, c⟩ := x
    unfold pget
    split
    · rename_i e; subst e; simp
    · rename_i e; rw [ih]; simp [e]
theorem pins_get (k : Int) (b : ByteArray) (j : Int) : ∀ (M : Wl), pget j (pins k b M) = if j = k then some b else pget j M
  | [] => by simp [pins, pget]
  | (a, c) :: M => by
    unfold pins
    split
    · unfold pget
      rw [pins_get k b j M]
      by_cases e : j = k
      · subst e
        rw [if_neg (by omega), if_pos rfl, if_pos rfl]
      · rw [if_neg e, if_neg e]
    · split
      · rename_i e
        subst e
        unfold pget
        by_cases e : j = a
        · rw [if_pos e, if_pos e]
        · rw [if_neg e, if_neg e, if_neg e]
      · conv => lhs; unfold pget
theorem pins_keys (k : Int) (b : ByteArray) : ∀ (M : Wl) (x : Int × ByteArray), x ∈ pins k b M → x = (k, b) ∨ x ∈ M
  | [], x, h => by simp [pins] at h; exact .inl h
  | (a, c) :: M, x, h => by
    unfold pins at h
    split at h
    · rcases List.mem_cons.1 h with e | h
      · exact .inr (by rw [e]; exact List.mem_cons_self)
      · rcases pins_keys k b M x h with e | h
        · exact .inl e
        · exact .inr (List.mem_cons_of_mem _ h)
    · split at h
      · rcases List.mem_cons.1 h with e | h
        · exact .inl e
        · exact .inr (List.mem_cons_of_mem _ h)
      · rcases List.mem_cons.1 h with e | h
        · exact .inl e
        · exact .inr h
theorem pins_rising (k : Int) (b : ByteArray) : ∀ {M : Wl}, Rising M → Rising (pins k b M)
  | [], _ => by simp [pins, Rising]
  | (a, c) :: M, h => by
    have h' := List.pairwise_cons.1 h
    unfold pins
    split
    · refine List.pairwise_cons.2 ⟨fun x hx => ?_, pins_rising k b h.tail⟩
      rcases pins_keys k b M x hx with e | hx
      · rw [e]; assumption
      · exact h'.1 x hx
    · split
      · rename_i e
        subst e
        exact List.pairwise_cons.2 ⟨h'.1, h.tail⟩
      · refine List.pairwise_cons.2 ⟨fun x hx => ?_, h⟩
        rcases List.mem_cons.1 hx with e | hx
        · rw [e]; dsimp only; omega
        · have := h'.1 x hx; dsimp only at *; omega
theorem pins_length (k : Int) (b : ByteArray) : ∀ {M : Wl}, Rising M → (pins k b M).length = if (pget k M).isSome then M.length else M.length + 1
  | [], _ => by simp [pins, pget]
  | (a, c) :: M, h => by
    have h' := List.pairwise_cons.1 h
    unfold pins pget
    split
    · have e0 : ¬ k = a := by omega
      rw [if_neg e0, List.length_cons, pins_length k b h.tail]
      split <;> rfl
    · split
      · rename_i e
        subst e
        simp
      · have hk : pget k M = none := pget_none.2 (fun hm => by
          obtain ⟨x, hx, e⟩ := List.mem_map.1 hm
          have := h'.1 x hx
          dsimp only at this
          omega)
        have e0 : ¬ k = a := by omega
        rw [if_neg e0, hk]
        rfl
theorem Rising.ext : ∀ {M M' : Wl}, Rising M → Rising M' → (∀ k, pget k M = pget k M') → M = M'
  | [], [], _, _, _ => rfl
  | [], (a, b) :: M', _, _, h => by
    have := h a
    simp [pget] at this
  | (a, b) :: M, [], _, _, h => by
    have := h a
    simp [pget] at this
  | (a, b) :: M, (a', b') :: M', hm, hm', h => by
    have h1 := List.pairwise_cons.1 hm
    have h2 := List.pairwise_cons.1 hm'
    have e : a = a' := by
      have k1 := h a
      have k2 := h a'
      by_cases e : a = a'
      · exact e
      · exfalso
        unfold pget at k1 k2
        rw [if_pos rfl, if_neg e] at k1
        rw [if_neg (fun e' => e e'.symm), if_pos rfl] at k2
        have q1 := h2.1 _ (pget_mem k1.symm)
        have q2 := h1.1 _ (pget_mem k2)
        dsimp only at q1 q2
        omega
    subst e
    have eb : b = b' := by
      have k1 := h a
      unfold pget at k1
      simpa using k1
    subst eb
    congr 1
    refine Rising.ext hm.tail hm'.tail (fun k => ?_)
    have k1 := h k
    unfold pget at k1
    by_cases e : k = a
    · subst e
      have q1 : pget k M = none := pget_none.2 (fun hx => by
        obtain ⟨x, hx, e⟩ := List.mem_map.1 hx
        have := h1.1 x hx
        dsimp only at this
        omega)
      have q2 : pget k M' = none := pget_none.2 (fun hx => by
        obtain ⟨x, hx, e⟩ := List.mem_map.1 hx
        have := h2.1 x hx
        dsimp only at this
        omega)
      rw [q1, q2]
    · rwa [if_neg e, if_neg e] at k1
theorem Rising.keys {M : Wl} (h : Rising M) : (M.map Prod.fst).Pairwise (· < ·) := by
  rw [List.pairwise_map]
  exact h

/-- A map's pairs are what was written. -/
def MapW (L : List (Int × Value)) (M : Wl) : Prop := (L.map Prod.fst).Nodup ∧ Rising M ∧ ∀ k, mget k L = (pget k M).map Value.string
section
variable {L : List (Int × Value)} {M : Wl}
theorem MapW.new : MapW [] [] := ⟨List.nodup_nil, List.Pairwise.nil, fun k => rfl⟩
theorem MapW.perm (h : MapW L M) : (L.map Prod.fst).Perm (M.map Prod.fst) := by
  refine (List.perm_ext_iff_of_nodup h.1 (h.2.1.keys.imp (fun h e => by omega))).2 (fun k => ?_)
  have h1 := h.2.2 k
  have e1 : mget k L = none ↔ pget k M = none := by rw [h1]; simp
  have e2 : k ∈ L.map Prod.fst ↔ ¬ mget k L = none := by rw [mget_none]; simp
  have e3 : k ∈ M.map Prod.fst ↔ ¬ pget k M = none := by rw [pget_none]; simp
  rw [e2, e3, e1]
theorem MapW.length (h : MapW L M) : L.length = M.length := by simpa using h.perm.length_eq
theorem MapW.sorted (h : MapW L M) : (L.map Prod.fst).mergeSort (fun x y => decide (x ≤ y)) = M.map Prod.fst := by
  have hs1 : ((L.map Prod.fst).mergeSort (fun x y => decide (x ≤ y))).Pairwise (· ≤ ·) := by
    have := List.pairwise_mergeSort (le := fun x y : Int => decide (x ≤ y)) (by intro a b c; simp; omega) (by intro a b; simp; omega) (L.map Prod.fst)
    exact this.imp (by intro a b; simp)
  have hs2 : (M.map Prod.fst).Pairwise (· ≤ ·) := h.2.1.keys.imp (fun h => by omega)
  refine List.Perm.eq_of_pairwise (fun a b _ _ h1 h2 => by omega) hs1 hs2 ((List.mergeSort_perm _ _).trans h.perm)
theorem MapW.put (h : MapW L M) (k : Int) (b : ByteArray) : MapW (mput k (.string b) L) (pins k b M) := by
  refine ⟨mput_nodup h.1, pins_rising k b h.2.1, fun j => ?_⟩
  rw [mget_put, pins_get, h.2.2 j]
  by_cases e : j = k
  · rw [if_pos e, if_pos e]; rfl
  · rw [if_neg e, if_neg e]
theorem MapW.at (h : MapW L M) {k : Int} {b : ByteArray} (hm : (k, b) ∈ M) : mget k L = some (.string b) := by
  rw [h.2.2, mem_pget h.2.1 hm]; rfl
end
end Go.Proofs.YtjjphcnoegaimaaGreat

namespace Go.Proofs.YtjjphcnoegaimaaGreat
open Go.RowKit Go.Shelf Go.Maps
set_option maxRecDepth 20000
set_option linter.unusedVariables false

/-- A transaction at block tb, its map at block m. -/
structure TxA (W : World) (tb p jb m : Nat) (M : Wl) (dn : Bool) : Prop where
  obj : W.heap[tb]? = some (.cells #[.pointer (some ⟨p, 0, none⟩), .pointer (some ⟨jb, 0, none⟩), .map (some m), .bool dn] 102 (0, 0))
  map : ∃ L, MapS W m .i64 L ∧ MapW L M
section
variable {W W' : World} {tb p jb m : Nat} {M : Wl} {dn : Bool}
theorem TxA.keep (h : TxA W tb p jb m M dn) (h1 : W'.heap[tb]? = W.heap[tb]?) (h2 : W'.heap[m]? = W.heap[m]?) : TxA W' tb p jb m M dn := by
  obtain ⟨L, a, b⟩ := h.map
  exact ⟨h1.trans h.obj, L, a.of_block h2, b⟩
theorem TxA.mlt (h : TxA W tb p jb m M dn) : m < W.heap.size := by
  obtain ⟨L, a, b⟩ := h.map
  exact a.lt
theorem TxA.of (h : TxA W tb p jb m M dn) (hB : Below W.heap.size W W') : TxA W' tb p jb m M dn := h.keep (hB.block tb (blk_lt h.obj)) (hB.block m h.mlt)
theorem TxA.mtb (h : TxA W tb p jb m M dn) : m ≠ tb := by
  rintro rfl
  obtain ⟨L, ⟨es, c, hb, _⟩, _⟩ := h.map
  rw [h.obj] at hb
  cases hb
theorem zero_str (w : World) : (zeroValue 9).run Tryz.prog w = .ok (.string ByteArray.empty) w := by kernel_rfl
theorem TxA.look (h : TxA W tb p jb m M dn) (k : Int) : (Instr.lookup 100 (.map (some m)) (.int .i64 k) false).run Tryz.prog W = .ok (.string ((pget k M).getD ByteArray.empty)) W := by
  obtain ⟨L, a, b⟩ := h.map
  rw [a.mapAt.look (t := 100) Tryz.underlying100 Tryz.underlying3 (zero_str W) k, b.2.2 k]
  cases pget k M <;> rfl
theorem TxA.look_ok (h : TxA W tb p jb m M dn) (k : Int) : (Instr.lookup 100 (.map (some m)) (.int .i64 k) true).run Tryz.prog W = .ok (.tuple #[.string ((pget k M).getD ByteArray.empty), .bool (pget k M).isSome]) W := by
  obtain ⟨L, a, b⟩ := h.map
  rw [a.mapAt.look_ok (t := 100) Tryz.underlying100 Tryz.underlying3 (zero_str W) k, b.2.2 k]
  cases pget k M <;> rfl
theorem TxA.len (h : TxA W tb p jb m M dn) (ty : TypeId) : (Builtin.len_ #[100] ty #[.map (some m)]).run Tryz.prog W = .ok (.int .i64 (M.length : Int)) W := by
  obtain ⟨L, a, b⟩ := h.map
  rw [a.len Tryz.underlying100 ty, b.length]
theorem TxA.put (h : TxA W tb p jb m M dn) (k : Int) (hk : (Lit.int .i64 k).wf = true) (b : ByteArray) : ∃ W', (Instr.mapUpdate 100 (.map (some m)) (.int .i64 k) (.string b)).run Tryz.prog W = .ok () W' ∧ TxA W' tb p jb m (pins k b M) dn ∧ W.grownBy W' (some m) := by
  obtain ⟨L, a, c⟩ := h.map
  obtain ⟨W', h1, h2, h3⟩ := a.put (t := 100) Tryz.underlying100 Tryz.underlying3 k hk (.string b)
  exact ⟨W', h1, ⟨(h3.block tb (blk_lt h.obj) (fun e => h.mtb (Option.some.inj e).symm)).trans h.obj, _, h2, c.put k b⟩, h3⟩
end

section
variable {w0 w W W' : World} {X : Nat → Prop} {p jb N B fr n g r tb m : Nat} {s : DS} {M : Wl} {dn : Bool}
set_option maxHeartbeats 400000 in
theorem tx_open (h : TxA W tb p jb m M false) : Calls Tryz.prog 44 #[.pointer (some ⟨tb, 0, none⟩)] W fun e W' => e = .returned (.int .i64 0) ∧ W = W' := by
  have h3 := cl_of h.obj 3
  go_enter Tryz.func44, Tryz.ntmps44
  go_wp2_with fail
  go_ret
  exact ⟨rfl, rfl⟩
set_option maxHeartbeats 400000 in
theorem tx_open_done (h : TxA W tb p jb m M true) : Calls Tryz.prog 44 #[.pointer (some ⟨tb, 0, none⟩)] W fun e W' => e = .returned (.int .i64 80) ∧ W = W' := by
  have h3 := cl_of h.obj 3
  go_enter Tryz.func44, Tryz.ntmps44
  go_wp2_with fail
  go_ret
  exact ⟨rfl, rfl⟩
set_option maxHeartbeats 400000 in
theorem tx_begin (w : World) : Calls Tryz.prog 11 #[.pointer (some ⟨p, 0, none⟩), .pointer (some ⟨jb, 0, none⟩)] w fun e w' =>
    e = .returned (.tuple #[.pointer (some ⟨w.heap.size + 1, 0, none⟩), .int .i64 0]) ∧ TxA w' (w.heap.size + 1) p jb w.heap.size [] false ∧ Below w.heap.size w w' ∧ w'.heap.size = w.heap.size + 2 := by
  have hmm := @run_makeMap Tryz.prog
  go_enter Tryz.func11, Tryz.ntmps11
  go_wp2_with fail
  go_ret2
  refine ⟨rfl, ⟨hp_new _ _ (by simp), [], ?_, MapW.new⟩, bal (bnew _ _) _, by simp⟩
  exact (MapS.new w .i64).of_block (hp_old _ _ (by simp))
set_option maxHeartbeats 400000 in
theorem tx_begin_nil (v : Value) (w : World) : Calls Tryz.prog 11 #[.pointer none, v] w fun e w' => e = .returned (.tuple #[.pointer none, .int .i64 1]) ∧ w = w' := by
  go_enter Tryz.func11, Tryz.ntmps11
  go_wp2_with fail
  go_ret2
  exact ⟨rfl, rfl⟩

/-- A transaction on a journal of a caller's own. -/
structure TJ (w0 : World) (X : Nat → Prop) (p jb N B fr n g r : Nat) (s : DS) (tb m : Nat) (M : Wl) (dn : Bool) (W : World) : Prop where
  j : JS w0 X p jb N B fr n g r s W
  t : TxA W tb p jb m M dn
  xt : X tb
  xm : X m
  gt : w0.heap.size ≤ tb
  gm : w0.heap.size ≤ m
theorem TJ.of (h : TJ w0 X p jb N B fr n g r s tb m M dn W) (hB : Below W.heap.size W W') : TJ w0 X p jb N B fr n g r s tb m M dn W' := ⟨h.j.of hB, h.t.of hB, h.xt, h.xm, h.gt, h.gm⟩
theorem TJ.drewn (h : TJ w0 X p jb N B fr n g r s tb m M dn W) (k : Nat) : TJ w0 X p jb N B fr n g r s tb m M dn (W.drewN k) := h.of (drewn_b (Below.refl _ _) k)
theorem TJ.take (h : TJ w0 X p jb N B fr n g r s tb m M dn W) (hB : Below W.heap.size W W') : TJ w0 (fun k => X k ∨ W.heap.size ≤ k ∧ k < W'.heap.size) p jb N B fr n g r s tb m M dn W' := ⟨h.j.take hB, h.t.of hB, .inl h.xt, .inl h.xm, h.gt, h.gm⟩
theorem TJ.less {Y : Nat → Prop} (h : TJ w0 X p jb N B fr n g r s tb m M dn W) (hY : ∀ k, Y k → X k) (hj : Y jb) (ht : Y tb) (hm : Y m) : TJ w0 Y p jb N B fr n g r s tb m M dn W := ⟨h.j.less hY hj, h.t, ht, hm, h.gt, h.gm⟩
theorem TJ.mjb (h : TJ w0 X p jb N B fr n g r s tb m M dn W) : m ≠ jb := by
  rintro rfl
  obtain ⟨L, ⟨es, c, hb, _⟩, _⟩ := h.t.map
  rw [h.j.obj] at hb
  cases hb
theorem TJ.tjb (h : TJ w0 X p jb N B fr n g r s tb m M dn W) : tb ≠ jb := by
  rintro rfl
  have h1 := h.j.obj
  rw [h.t.obj] at h1
  simp at h1
theorem TJ.small (h : TJ w0 X p jb N B fr n g r s tb m M dn W) : N ≤ 1000000 := by
  have h1 := h.j.ok.hard
  obtain ⟨hb, hc, mm, L, h2, _⟩ := h.j.dev.dev
  have := h2.pos
  omega
/-- One of the caller's own blocks turns. -/
theorem JS.grown (h : JS w0 X p jb N B fr n g r s W) {b : Nat} (hb : X b) (hw : w0.heap.size ≤ b) (hne : b ≠ jb) (hg : W.grownBy W' (some b)) : JS w0 X p jb N B fr n g r s W' := by
  have hf : Fr (fun k => k = b) W W' := ⟨hg.os, hg.tape, hg.output, hg.size, fun k hk hs => hg.block k hk (fun e => hs (Option.some.inj e))⟩
  refine ⟨⟨h.dev.dev.fr hf (fun k hk e => ?_), h.dev.below.trans (hf.below h.dev.below.size (fun k e => by rw [e]; exact hw)), fun k hk => Nat.lt_of_lt_of_le (h.dev.lt k hk) hg.size⟩, h.ok, (hf.block jb (blk_lt h.obj) (fun e => hne e.symm)).trans h.obj, h.own, h.ge⟩
  subst e
  exact hk.2 hb
theorem JS.begin (h : JS w0 X p jb N B fr n g r s W) : Calls Tryz.prog 11 #[.pointer (some ⟨p, 0, none⟩), .pointer (some ⟨jb, 0, none⟩)] W fun e W' =>
    e = .returned (.tuple #[.pointer (some ⟨W.heap.size + 1, 0, none⟩), .int .i64 0]) ∧ TJ w0 (fun k => X k ∨ W.heap.size ≤ k ∧ k < W'.heap.size) p jb N B fr n g r s (W.heap.size + 1) W.heap.size [] false W' ∧ Below W.heap.size W W' := by
  refine (tx_begin W).mono ?_
  rintro e W' ⟨rfl, h1, h2, h3⟩
  exact ⟨rfl, ⟨h.take h2, h1, .inr (by omega), .inr (by omega), Nat.le_trans h.dev.below.size (by omega), h.dev.below.size⟩, h2⟩

set_option maxHeartbeats 2000000 in
theorem tx_read (h : TJ w0 X p jb N B fr n g r s tb m M false W) (hd : s.dead = false) (i : Nat) (hi : i < N) : Calls Tryz.prog 39 #[.pointer (some ⟨tb, 0, none⟩), .int .i64 i] W fun e W' =>
    e = .returned (.tuple #[.string ((pget i M).getD (newest s i)), .int .i64 0]) ∧ Below W.heap.size W W' := by
  have h0 := cl_of h.t.obj 0
  have h2 := cl_of h.t.obj 2
  have hlk := h.t.look_ok i
  have hN := h.small
  have e1 : decide ((i : Int) < 0) = false := decide_eq_false (by omega)
  have e2 : decide ((i : Int) ≥ (N : Int)) = false := decide_eq_false (by omega)
  have hrd := js_readb h.j hd i hi
  have hln := js_len h.j
  have hop := tx_open h.t
  have HRD := Lib.hid hrd
  have HLN := Lib.hid hln
  have HOP := Lib.hid hop
  cases hg : pget i M with
  | none =>
    rw [hg] at hlk
    simp only [Option.getD_none, Option.isSome_none] at hlk
    clear h hrd hln hop hg
    go_enter Tryz.func39, Tryz.ntmps39
    go_wp2_with fail
    refine HOP.out.mono ?_
    rintro e w1 ⟨rfl, rfl⟩
    go_wp2_with fail
    refine HLN.out.mono ?_
    rintro e w1 ⟨rfl, rfl⟩
    go_wp2_with fail
    refine HRD.out.mono ?_
    rintro e w1 ⟨rfl, hB⟩
    go_wp2_with fail
    go_ret2
    exact ⟨rfl, hB⟩
  | some b =>
    rw [hg] at hlk
    simp only [Option.getD_some, Option.isSome_some] at hlk
    clear h hrd hln hop hg
    go_enter Tryz.func39, Tryz.ntmps39
    go_wp2_with fail
    refine HOP.out.mono ?_
    rintro e w1 ⟨rfl, rfl⟩
    go_wp2_with fail
    refine HLN.out.mono ?_
    rintro e w1 ⟨rfl, rfl⟩
    go_wp2_with fail
    go_ret2
    exact ⟨rfl, Below.refl _ _⟩
set_option maxHeartbeats 2000000 in
theorem tx_read_done (h : TxA W tb p jb m M true) (i : Int) : Calls Tryz.prog 39 #[.pointer (some ⟨tb, 0, none⟩), .int .i64 i] W fun e W' =>
    e = .returned (.tuple #[.string ByteArray.empty, .int .i64 80]) ∧ W = W' := by
  go_enter Tryz.func39, Tryz.ntmps39
  go_wp2_with fail
  refine (tx_open_done h).mono ?_
  rintro e w1 ⟨rfl, rfl⟩
  go_wp2_with fail
  go_ret2
  exact ⟨rfl, rfl⟩

/-- What a write leaves. -/
def TwPost (w0 : World) (X : Nat → Prop) (p jb N B fr n g r : Nat) (s : DS) (tb m : Nat) (M : Wl) (mx : Nat) (i : Nat) (b : ByteArray) (W : World) (e : Ending) (W' : World) : Prop :=
  ((pget i M).isSome = true ∨ M.length < mx) ∧ e = .returned (.int .i64 0) ∧ TJ w0 X p jb N B fr n g r s tb m (pins i b M) false W' ∧ Kb w0 (fun k => X k ∧ k ≠ m) W W' ∨
  ((pget i M).isSome = false ∧ mx ≤ M.length) ∧ e = .returned (.int .i64 4) ∧ TJ w0 X p jb N B fr n g r s tb m M false W' ∧ Below W.heap.size W W'
theorem TJ.wrote (h : TJ w0 X p jb N B fr n g r s tb m M false W) {k : Int} {b : ByteArray} (ht : TxA W' tb p jb m (pins k b M) false) (hg : W.grownBy W' (some m)) : TJ w0 X p jb N B fr n g r s tb m (pins k b M) false W' ∧ Kb w0 (fun k => X k ∧ k ≠ m) W W' := by
  refine ⟨⟨h.j.grown h.xm h.gm h.mjb hg, ht, h.xt, h.xm, h.gt, h.gm⟩, fun k hk => hg.block k ?_ (fun e => ?_)⟩
  · rcases hk with hk | hk
    · exact Nat.lt_of_lt_of_le hk h.j.dev.below.size
    · exact h.j.dev.lt k hk.1
  · cases e
    rcases hk with hk | hk
    · have := h.gm; omega
    · exact hk.2 rfl
theorem jmax_quiet (h : JS w0 X p jb N B fr n g r s W) {mx : Nat} (hm : IsMost n mx) (hn : n ≤ 100000) : Calls Tryz.prog 13 #[.pointer (some ⟨jb, 0, none⟩)] W fun e W' => e = .returned (.int .i64 mx) ∧ W' = W :=
  (jmax_any h hm hn).mono (fun _ _ ⟨a, b⟩ => ⟨a, b.symm⟩)
set_option maxHeartbeats 4000000 in
theorem tx_write (h : TJ w0 X p jb N B fr n g r s tb m M false W) (i : Nat) (hi : i < N) (b : ByteArray) (hb : b.size = 64) {mx : Nat} (hm : IsMost n mx) (hn : n ≤ 100000) : Calls Tryz.prog 15 #[.pointer (some ⟨tb, 0, none⟩), .int .i64 i, .string b] W
    (TwPost w0 X p jb N B fr n g r s tb m M mx i b W) := by
  have h0 := cl_of h.t.obj 0
  have h1 := cl_of h.t.obj 1
  have h2 := cl_of h.t.obj 2
  have hlk := h.t.look_ok i
  have hN := h.small
  have e1 : decide ((i : Int) < 0) = false := decide_eq_false (by omega)
  have e2 : decide ((i : Int) ≥ (N : Int)) = false := decide_eq_false (by omega)
  have e3 : ((b.size : Int) != 64) = false := by simp; omega
  have hln := js_len h.j
  have hop := tx_open h.t
  have HLN := Lib.hid hln
  have HOP := Lib.hid hop
  have HM := Lib.hid hm
  have HH := Lib.hid h
  have hwf : (Lit.int .i64 (i : Int)).wf = true := by simp [Lit.wf, IntKind.min, IntKind.signed, IntKind.bits]; omega
  by_cases hs : (pget i M).isSome = true
  · have HP := fun (k : Nat) => (by
      obtain ⟨W2, hr2, ht2, hg2⟩ := (HH.out.drewn k).t.put i hwf b
      exact ⟨W2, hr2, .inl ⟨.inl hs, rfl, (HH.out.drewn k).wrote ht2 hg2⟩⟩ : ∃ W2, (Instr.mapUpdate 100 (.map (some m)) (.int .i64 i) (.string b)).run Tryz.prog (W.drewN k) = .ok () W2 ∧ TwPost w0 X p jb N B fr n g r s tb m M mx i b W (.returned (.int .i64 0)) W2)
    rw [hs] at hlk
    generalize (pget i M).getD ByteArray.empty = old at *
    clear h hln hop hs hm hwf
    go_enter Tryz.func15, Tryz.ntmps15
    go_wp2_with fail
    refine HOP.out.mono ?_
    rintro e w1 ⟨rfl, rfl⟩
    go_wp2_with fail
    refine HLN.out.mono ?_
    rintro e w1 ⟨rfl, rfl⟩
    go_wp2_with fail
    go_quiet (fail)
    obtain ⟨W2, hr2, hp⟩ := HP nq
    have HP2 := Lib.hid hp
    clear hp HP
    go_wp2_with fail
    go_ret
    exact HP2.out
  · have hs' : (pget i M).isSome = false := by simpa using hs
    have hml := h.t.len 3
    rw [hs'] at hlk
    have HQ := fun (k : Nat) => jmax_quiet (HH.out.drewn k).j HM.out hn
    have hd1 := fun (k : Nat) => ((HH.out.drewn k).t.len 3)
    by_cases hlt : M.length < mx
    · have e4 : decide ((M.length : Int) ≥ (mx : Int)) = false := decide_eq_false (by omega)
      have HP := fun (k : Nat) => (by
        obtain ⟨W2, hr2, ht2, hg2⟩ := (HH.out.drewn k).t.put i hwf b
        exact ⟨W2, hr2, .inl ⟨.inr hlt, rfl, (HH.out.drewn k).wrote ht2 hg2⟩⟩ : ∃ W2, (Instr.mapUpdate 100 (.map (some m)) (.int .i64 i) (.string b)).run Tryz.prog (W.drewN k) = .ok () W2 ∧ TwPost w0 X p jb N B fr n g r s tb m M mx i b W (.returned (.int .i64 0)) W2)
      generalize (pget i M).getD ByteArray.empty = old at *
      clear h hln hop hs hs' hm hwf
      go_enter Tryz.func15, Tryz.ntmps15
      go_wp2_with fail
      refine HOP.out.mono ?_
      rintro e w1 ⟨rfl, rfl⟩
      go_wp2_with fail
      refine HLN.out.mono ?_
      rintro e w1 ⟨rfl, rfl⟩
      go_wp2_with fail
      go_quiet ((go_at_call 13; exact Calls.quiet_of_same (HQ _)))
      obtain ⟨W2, hr2, hp⟩ := HP nq
      have HP2 := Lib.hid hp
      clear hp HP
      go_wp2_with fail
      go_ret
      exact HP2.out
    · have e4 : decide ((M.length : Int) ≥ (mx : Int)) = true := decide_eq_true (by omega)
      have HP := fun (k : Nat) => (Lib.hid (.inr ⟨⟨hs', by omega⟩, rfl, HH.out.drewn k, drewn_b (Below.refl _ _) k⟩) : Hid (TwPost w0 X p jb N B fr n g r s tb m M mx i b W (.returned (.int .i64 4)) (W.drewN k)))
      generalize (pget i M).getD ByteArray.empty = old at *
      clear h hln hop hs hs' hm hwf
      go_enter Tryz.func15, Tryz.ntmps15
      go_wp2_with fail
      refine HOP.out.mono ?_
      rintro e w1 ⟨rfl, rfl⟩
      go_wp2_with fail
      refine HLN.out.mono ?_
      rintro e w1 ⟨rfl, rfl⟩
      go_wp2_with fail
      go_quiet ((go_at_call 13; exact Calls.quiet_of_same (HQ _)))
      go_wp2_with fail
      go_ret
      exact (HP _).out

theorem TJ.abort (h : TJ w0 X p jb N B fr n g r s tb m M false W) : TJ w0 X p jb N B fr n g r s tb m M true (W.setCell ⟨tb, 3, none⟩ (.bool true)) := by
  refine ⟨h.j.set h.xt h.gt h.tjb 3 _, ⟨by rw [blk_here h.t.obj 3]; rfl, ?_⟩, h.xt, h.xm, h.gt, h.gm⟩
  obtain ⟨L, a, b⟩ := h.t.map
  exact ⟨L, a.of_block (kb_set 3 _ m h.t.mtb), b⟩
end
end Go.Proofs.YtjjphcnoegaimaaGreat
