/- Small words for all walks of this seat: what a new block does to the heap; which blocks a call may turn. Small words on what a call leaves below: steps of 'Below' without numbers. Maps with keys of an integer kind and whatever values, in plain words: a map's block as a list of pairs in the order in which they came. Maps with keys of an integer kind as lists of pairs, with their stamps: what may be ranged over; a key is struck. A slice of the call's own that is appended to: where its block lies behind the append. A drawn region walked in the order of its text: what yields under S is taken first, what is not wanted is skipped, what alone may come up is carried out; S may be strengthened under way. A region that draws its order, in a round of a range over a function: its reads once, in the order of the text; then its tail. -/
import Derived.RangeFuncBox
import Derived.RangeFuncFrom
import Derived.RangeFuncLeaves
import Derived.RangeFuncCalls
import Derived.Shelf.Abstract
import Derived.WalkKit
import Derived.OwnWalkIn
import Derived.TacticsInMore
import Derived.LoopNIn
import Derived.LoopIn
import Derived.WalkLawsBesides
import Derived.WalkSpells
import Derived.Lib.Hide
import Derived.Deep.WholeRow
import Derived.Shelf.RegionOpen
import Derived.Sort.MapsRangeIn
import Derived.Sort.KeysCollected
import Derived.Deep.RegionHeld3
import Derived.StillTailTactics
import Derived.StillTail
import Derived.StillTactics
import Derived.TacticsIn
namespace Go.Proofs.YtjjphcnoegaimaaGreat
open Go.RowKit

theorem hp_alloc (w : World) (o : Obj) (k : Nat) : (w.alloc o).heap[k]? = if k = w.heap.size then some o else w.heap[k]? := by
  show (w.heap.push o)[k]? = _
  rw [Array.getElem?_push]
theorem hp_new (w : World) (o : Obj) {k : Nat} (h : k = w.heap.size) : (w.alloc o).heap[k]? = some o := by rw [hp_alloc, if_pos h]
theorem hp_old (w : World) (o : Obj) {k : Nat} (h : k < w.heap.size) : (w.alloc o).heap[k]? = w.heap[k]? := by rw [hp_alloc, if_neg (by omega)]

theorem cl_of {w : World} {b : Nat} {c : Array Value} {t : TypeId} {fz : Nat × Nat} (h : w.heap[b]? = some (.cells c t fz)) (i : Nat) : w.cell? ⟨b, i, none⟩ = c[i]? := by simp [World.cell?, h]
theorem fz_of {w : World} {b : Nat} {c : Array Value} {t : TypeId} (h : w.heap[b]? = some (.cells c t (0, 0))) (i : Nat) : w.frozen? ⟨b, i, none⟩ = false := by simp [World.frozen?, h]

theorem block_kept {W W' : World} {row : Option Nat} {b : Nat} {o : Obj} (h : W.heap[b]? = some o) (ho : o.isCells = true) (hg : W.grownBy W' row) (hr : ∀ r, row = some r → ∃ o : Obj, W.heap[r]? = some o ∧ o.isCells = false) : W'.heap[b]? = some o := by
  rw [← h]
  refine hg.block b (Array.getElem?_eq_some_iff.1 h).1 (fun e => ?_)
  obtain ⟨o', ho', hf⟩ := hr b e.symm
  rw [h] at ho'
  cases ho'
  rw [ho] at hf
  cases hf

/-- Some blocks lie as they lay. -/
def KeepB (S : Nat → Prop) (W W' : World) : Prop := ∀ b, S b → W'.heap[b]? = W.heap[b]?
theorem KeepB.t {S : Nat → Prop} {A B C : World} (h : KeepB S A B) (k : KeepB S B C) : KeepB S A C := fun b hb => (k b hb).trans (h b hb)
theorem KeepB.b {S : Nat → Prop} {w : World} (hS : ∀ b, S b → b < w.heap.size) (W : World) (l : Nat) (o o' : Obj) (hl : w.heap.size ≤ l) (_ : W.heap[l]? = some o) (_ : o.isCells = false) (_ : o.isWalk = false) : KeepB S W (W.putObj l o') :=
  fun b hb => World.putObj_heap_other (by have := hS b hb; omega)
theorem KeepB.cell {S : Nat → Prop} {W W' : World} (h : KeepB S W W') {p : Addr} (hp : S p.block) : W'.cell? p = W.cell? p := World.cell?_of_block (w := W) (h p.block hp)

/-- Of what lay in w nothing has turned in w' but the blocks of S. -/
structure Fr (S : Nat → Prop) (w w' : World) : Prop where
  os : w'.os = w.os
  tape : w'.tape = w.tape
  output : w'.output = w.output
  size : w.heap.size ≤ w'.heap.size
  block : ∀ k, k < w.heap.size → ¬ S k → w'.heap[k]? = w.heap[k]?

theorem Fr.refl (S : Nat → Prop) (w : World) : Fr S w w := ⟨rfl, rfl, rfl, Nat.le_refl _, fun _ _ _ => rfl⟩
theorem Fr.trans {S : Nat → Prop} {a b c : World} (h : Fr S a b) (k : Fr S b c) : Fr S a c :=
  ⟨k.os.trans h.os, k.tape.trans h.tape, k.output.trans h.output, Nat.le_trans h.size k.size, fun i hi hs => (k.block i (Nat.lt_of_lt_of_le hi h.size) hs).trans (h.block i hi hs)⟩
theorem Fr.weak {S T : Nat → Prop} {a b : World} (h : Fr S a b) (hs : ∀ k, k < a.heap.size → S k → T k) : Fr T a b :=
  ⟨h.os, h.tape, h.output, h.size, fun i hi ht => h.block i hi (fun s => ht (hs i hi s))⟩
theorem Fr.cell {S : Nat → Prop} {w w' : World} (h : Fr S w w') {p : Addr} (hp : p.block < w.heap.size) (hn : ¬ S p.block) : w'.cell? p = w.cell? p := World.cell?_of_block (w := w) (h.block p.block hp hn)
theorem Fr.frozen {S : Nat → Prop} {w w' : World} (h : Fr S w w') {p : Addr} (hp : p.block < w.heap.size) (hn : ¬ S p.block) : w'.frozen? p = w.frozen? p := World.frozen?_of_block (w := w) (h.block p.block hp hn)
theorem Fr.of_below {S : Nat → Prop} {w w' : World} (h : Below w.heap.size w w') : Fr S w w' := ⟨h.os, h.tape, h.output, h.size, fun k hk _ => h.block k hk⟩
theorem Fr.below {B : Nat} {S : Nat → Prop} {w w' : World} (h : Fr S w w') (hB : B ≤ w.heap.size) (hS : ∀ k, S k → B ≤ k) : Below B w w' :=
  ⟨h.os, h.tape, h.output, h.size, fun k hk => h.block k (by omega) (fun s => by have := hS k s; omega)⟩
theorem Fr.step {B : Nat} {S : Nat → Prop} {a w w' : World} (hb : Below B a w) (h : Fr S w w') (hB : B ≤ w.heap.size) (hS : ∀ k, S k → B ≤ k) : Below B a w' := hb.trans (h.below hB hS)

/-- A text of bytes as the machine's string. -/
def bs (l : List UInt8) : ByteArray := ⟨l.toArray⟩
theorem bs_data (l : List UInt8) : (bs l).data.toList = l := by simp [bs]
theorem bs_size (l : List UInt8) : (bs l).size = l.length := by simp [bs, ByteArray.size]
theorem bs_of (s : ByteArray) : bs s.data.toList = s := by cases s; simp [bs]
end Go.Proofs.YtjjphcnoegaimaaGreat

namespace Go.Proofs.YtjjphcnoegaimaaGreat
open Go.RowKit

theorem bt {a b c : World} (h : Below a.heap.size a b) (k : Below b.heap.size b c) : Below a.heap.size a c := h.trans (k.mono h.size)
theorem bal {a b : World} (h : Below a.heap.size a b) (o : Obj) : Below a.heap.size a (b.alloc o) := h.alloc h.size o
theorem bnew (a : World) (o : Obj) : Below a.heap.size a (a.alloc o) := (Below.refl _ _).alloc (Nat.le_refl _) o
/-- A block that lay in the middle world lies in the last. -/
theorem bblk {b c : World} (k : Below b.heap.size b c) {l : Nat} {o : Obj} (h : b.heap[l]? = some o) : c.heap[l]? = some o := (k.block l (Array.getElem?_eq_some_iff.1 h).1).trans h
theorem blk_lt {b : World} {l : Nat} {o : Obj} (h : b.heap[l]? = some o) : l < b.heap.size := (Array.getElem?_eq_some_iff.1 h).1
theorem blk_old {b : World} {l : Nat} {o : Obj} (h : b.heap[l]? = some o) (x : Obj) : (b.alloc x).heap[l]? = some o := (hp_old b x (blk_lt h)).trans h
theorem blk_set {b : World} {l : Nat} {o : Obj} (h : b.heap[l]? = some o) {p : Addr} (hp : l ≠ p.block) (v : Value) : (b.setCell p v).heap[l]? = some o := (Below.heap_setCell b p v l hp).trans h
theorem blk_here {w : World} {b : Nat} {cs : Array Value} {t : TypeId} {fz : Nat × Nat} (h : w.heap[b]? = some (.cells cs t fz)) (i : Nat) (u : Value) : (w.setCell ⟨b, i, none⟩ u).heap[b]? = some (.cells (cs.setIfInBounds i u) t fz) := by
  obtain ⟨hlt, _⟩ := Array.getElem?_eq_some_iff.1 h
  simp [World.setCell, Array.getElem?_modify, h]
theorem bcell {W w1 : World} (hb : Below W.heap.size W w1) : (∀ b o, b < W.heap.size → w1.cell? ⟨b, o, none⟩ = W.cell? ⟨b, o, none⟩) ∧ (∀ b o, b < W.heap.size → w1.frozen? ⟨b, o, none⟩ = W.frozen? ⟨b, o, none⟩) :=
  ⟨fun b o h => hb.cell (p := ⟨b, o, none⟩) h, fun b o h => hb.frozen (p := ⟨b, o, none⟩) h⟩
end Go.Proofs.YtjjphcnoegaimaaGreat

namespace Go.Proofs.YtjjphcnoegaimaaGreat
open Go.RowKit Go.Instr

def mgetI (k : Int) : List (Int × Value) → Nat → Option (Nat × Value)
  | [], _ => none
  | (a, v) :: l, i => if k = a then some (i, v) else mgetI k l (i + 1)
/-- What a map has of a key. -/
def mget (k : Int) : List (Int × Value) → Option Value
  | [] => none
  | (a, v) :: l => if k = a then some v else mget k l
/-- A map with a key set. -/
def mput (k : Int) (v : Value) : List (Int × Value) → List (Int × Value)
  | [] => [(k, v)]
  | (a, u) :: l => if k = a then (a, v) :: l else (a, u) :: mput k v l
/-- A map without a key. -/
def mdel (k : Int) : List (Int × Value) → List (Int × Value)
  | [] => []
  | (a, u) :: l => if k = a then l else (a, u) :: mdel k l

theorem mget_put_same (k : Int) (v : Value) (l : List (Int × Value)) : mget k (mput k v l) = some v := by
  induction l with
  | nil => simp [mput, mget]
  | cons x l ih =>
    obtain ⟨a, u⟩ := x
    unfold mput
    by_cases h : k = a
    · simp [h, mget]
    · simp [h, mget, ih]
theorem mget_put_other {k j : Int} (hk : j ≠ k) (v : Value) (l : List (Int × Value)) : mget j (mput k v l) = mget j l := by
  induction l with
  | nil => simp [mput, mget, hk]
  | cons x l ih =>
    obtain ⟨a, u⟩ := x
    unfold mput
    by_cases h : k = a
    · subst h
      simp [mget, hk]
    · simp [h, mget, ih]
theorem mget_put (k j : Int) (v : Value) (l : List (Int × Value)) : mget j (mput k v l) = if j = k then some v else mget j l := by
  by_cases h : j = k
  · subst h; rw [if_pos rfl, mget_put_same]
  · rw [if_neg h, mget_put_other h]
theorem mput_keys (k : Int) (v : Value) (l : List (Int × Value)) : (mput k v l).map Prod.fst = if k ∈ l.map Prod.fst then l.map Prod.fst else l.map Prod.fst ++ [k] := by
  induction l with
  | nil => simp [mput]
  | cons x l ih =>
    obtain ⟨a, u⟩ := x
    unfold mput
    by_cases h : k = a
    · simp [h]
    · simp only [h, if_false, List.map_cons, ih, List.mem_cons, false_or]
      split <;> simp_all
theorem mget_none {k : Int} {l : List (Int × Value)} : mget k l = none ↔ k ∉ l.map Prod.fst := by
  induction l with
  | nil => simp [mget]
  | cons x l ih =>
    obtain ⟨a, u⟩ := x
    unfold mget
    by_cases h : k = a
    · simp [h]
    · simp [h, ih]
theorem mput_nodup {k : Int} {v : Value} {l : List (Int × Value)} (h : (l.map Prod.fst).Nodup) : ((mput k v l).map Prod.fst).Nodup := by
  rw [mput_keys]
  split
  · exact h
  · rename_i hk
    rw [List.nodup_append]
    refine ⟨h, by simp, ?_⟩
    intro a ha b hb e
    simp at hb
    subst hb; subst e
    exact hk ha
theorem mdel_keys {k : Int} {l : List (Int × Value)} (h : (l.map Prod.fst).Nodup) : (mdel k l).map Prod.fst = (l.map Prod.fst).filter (· ≠ k) := by
  induction l with
  | nil => rfl
  | cons x l ih =>
    obtain ⟨a, u⟩ := x
    simp only [List.map_cons, List.nodup_cons] at h
    unfold mdel
    by_cases hk : k = a
    · subst hk
      simp only [if_true, List.map_cons, ne_eq, not_true, decide_false, List.filter_cons, Bool.false_eq_true, if_false]
      rw [List.filter_eq_self.2]
      intro b hb
      have : b ≠ k := fun e => h.1 (e ▸ hb)
      simpa using this
    · have hk' : ¬ a = k := fun e => hk e.symm
      simp only [hk, if_false, List.map_cons, ih h.2, List.filter_cons, ne_eq, hk', not_false_iff, decide_true, if_true]
theorem mget_del {k : Int} {l : List (Int × Value)} (h : (l.map Prod.fst).Nodup) (j : Int) : mget j (mdel k l) = if j = k then none else mget j l := by
  induction l with
  | nil => simp [mdel, mget]
  | cons x l ih =>
    obtain ⟨a, u⟩ := x
    simp only [List.map_cons, List.nodup_cons] at h
    unfold mdel
    by_cases hk : k = a
    · subst hk
      rw [if_pos rfl]
      by_cases hj : j = k
      · subst hj; rw [if_pos rfl]; exact mget_none.2 h.1
      · simp [hj, mget]
    · rw [if_neg hk]
      by_cases hj : j = a
      · subst hj
        rw [if_neg (fun e => hk e.symm)]
        simp [mget]
      · simp only [mget, hj, if_false, ih h.2]

/-- A map's block: pairs, each key once. -/
def MapAt (W : World) (m : Nat) (q : IntKind) (L : List (Int × Value)) : Prop :=
  ∃ es clock, W.heap[m]? = some (.map es clock) ∧ es.toList.map (fun e => (e.key, e.val)) = L.map (fun p => (Value.int q p.1, p.2)) ∧ (L.map Prod.fst).Nodup

theorem MapAt.of_block {W W' : World} {m : Nat} {q : IntKind} {L : List (Int × Value)} (h : MapAt W m q L) (hb : W'.heap[m]? = W.heap[m]?) : MapAt W' m q L := by
  obtain ⟨es, clock, h1, h2⟩ := h
  exact ⟨es, clock, hb.trans h1, h2⟩
theorem MapAt.lt {W : World} {m : Nat} {q : IntKind} {L : List (Int × Value)} (h : MapAt W m q L) : m < W.heap.size := by
  obtain ⟨es, clock, h1, _⟩ := h
  exact (Array.getElem?_eq_some_iff.1 h1).1
theorem MapAt.new (W : World) (q : IntKind) : MapAt (W.alloc (.map #[] 0)) W.heap.size q [] := ⟨#[], 0, hp_new _ _ rfl, rfl, by simp⟩

theorem findNow_list (q : IntKind) (k : Int) : ∀ (es : List MapEntry) (L : List (Int × Value)) (i : Nat), es.map (fun e => (e.key, e.val)) = L.map (fun p => (Value.int q p.1, p.2)) →
    findNow (.int q) (.int q k) es i = some (mgetI k L i)
  | [], [], i, _ => rfl
  | [], _ :: _, _, h => by simp at h
  | _ :: _, [], _, h => by simp at h
  | e :: es, (a, v) :: L, i, h => by
    simp only [List.map_cons, List.cons.injEq, Prod.mk.injEq] at h
    obtain ⟨⟨hk, hv⟩, ht⟩ := h
    have hs : sameNow (.int q) (.int q k) e.key = some (k == a) := by rw [hk]; simp [sameNow]
    unfold findNow mgetI
    by_cases hka : k = a
    · have hb : (k == a) = true := by simpa using hka
      rw [hs, hb, if_pos hka, hv]
    · have hb : (k == a) = false := by simpa using hka
      rw [hs, hb, if_neg hka]
      exact findNow_list q k es L (i + 1) ht

theorem mgetI_mget (k : Int) : ∀ (L : List (Int × Value)) (i : Nat), (mgetI k L i).map (·.2) = mget k L
  | [], i => rfl
  | (a, v) :: L, i => by
    unfold mgetI mget
    split
    · rfl
    · exact mgetI_mget k L (i + 1)
theorem mgetI_spec (k : Int) : ∀ (L : List (Int × Value)) (i j : Nat) (v : Value), mgetI k L i = some (j, v) → i ≤ j ∧ ∃ h : j - i < L.length, L[j - i] = (k, v)
  | [], i, j, v, h => by simp [mgetI] at h
  | (a, u) :: L, i, j, v, h => by
    unfold mgetI at h
    split at h
    · rename_i hk
      simp only [Option.some.injEq, Prod.mk.injEq] at h
      obtain ⟨rfl, rfl⟩ := h
      exact ⟨Nat.le_refl _, by simp [hk]⟩
    · obtain ⟨h1, h2, h3⟩ := mgetI_spec k L (i + 1) j v h
      have e : j - i = (j - (i + 1)) + 1 := by omega
      refine ⟨by omega, by simp; omega, ?_⟩
      simp only [e, List.getElem_cons_succ]
      exact h3

section
variable {P : Program} {t k e : TypeId} {q : IntKind} {W : World} {m : Nat} {L : List (Int × Value)}

theorem run_checkKey_int (hk : P.underlying k = some (.int q)) (b : Bool) (v : Value) (W : World) : (checkKey b 10000 k v).run P W = .ok () W := by
  unfold checkKey
  rw [Sem.run_bind, run_underlying hk]
  rfl
theorem run_findKey_int (hk : P.underlying k = some (.int q)) (j : Int) (es : List MapEntry) (h : es.map (fun e => (e.key, e.val)) = L.map (fun p => (Value.int q p.1, p.2))) (W : World) :
    (findKey k (.int q j) es).run P W = .ok (mgetI j L 0) W := by
  simp [findKey, run_underlying hk, findNow_list q j es L 0 h]
theorem run_keyThatStays_int (a : Int) (W : World) : (keyThatStays (.int q a) (.int q a)).run P W = .ok (.int q a) W := by
  simp [keyThatStays, sameBits]

/-- 'm[k]'. -/
theorem MapAt.look (h : MapAt W m q L) (ht : P.underlying t = some (.map k e)) (hk : P.underlying k = some (.int q)) {z : Value} (hz : (zeroValue e).run P W = .ok z W) (j : Int) :
    (lookup t (.map (some m)) (.int q j) false).run P W = .ok ((mget j L).getD z) W := by
  obtain ⟨es, clock, hb, hl, _⟩ := h
  have hg : (getObj m).run P W = .ok (.map es clock) W := by simp [getObj, Sem.run, hb]
  have hc := run_checkKey_int (P := P) hk es.isEmpty (.int q j) W
  have hf := run_findKey_int (P := P) hk j es.toList hl W
  have hm := mgetI_mget j L 0
  simp only [lookup, Sem.run_bind, run_underlying ht, Result.andThen_ok, hg, Sem.run_pure, hc, hf]
  cases hI : mgetI j L 0 with
  | none => rw [hI] at hm; simp [← hm, hz]
  | some x => rw [hI] at hm; simp [← hm]
/-- 'v, ok := m[k]'. -/
theorem MapAt.look_ok (h : MapAt W m q L) (ht : P.underlying t = some (.map k e)) (hk : P.underlying k = some (.int q)) {z : Value} (hz : (zeroValue e).run P W = .ok z W) (j : Int) :
    (lookup t (.map (some m)) (.int q j) true).run P W = .ok (.tuple #[(mget j L).getD z, .bool (mget j L).isSome]) W := by
  obtain ⟨es, clock, hb, hl, _⟩ := h
  have hg : (getObj m).run P W = .ok (.map es clock) W := by simp [getObj, Sem.run, hb]
  have hc := run_checkKey_int (P := P) hk es.isEmpty (.int q j) W
  have hf := run_findKey_int (P := P) hk j es.toList hl W
  have hm := mgetI_mget j L 0
  simp only [lookup, Sem.run_bind, run_underlying ht, Result.andThen_ok, hg, Sem.run_pure, hc, hf]
  cases hI : mgetI j L 0 with
  | none => rw [hI] at hm; simp [← hm, hz]
  | some x => rw [hI] at hm; simp [← hm]

theorem mput_of_some {j : Int} {i : Nat} {u v : Value} : ∀ {L : List (Int × Value)} {b : Nat}, mgetI j L b = some (i, u) → (L.map Prod.fst).Nodup → mput j v L = L.set (i - b) (j, v)
  | [], b, h, _ => by simp [mgetI] at h
  | (a, w) :: L, b, h, hn => by
    simp only [List.map_cons, List.nodup_cons] at hn
    unfold mgetI at h
    unfold mput
    split at h
    · rename_i hk
      simp only [Option.some.injEq, Prod.mk.injEq] at h
      obtain ⟨rfl, rfl⟩ := h
      simp [hk]
    · rename_i hk
      have := (mgetI_spec j L (b + 1) i u h).1
      rw [if_neg hk, mput_of_some h hn.2, show i - b = (i - (b + 1)) + 1 by omega, List.set_cons_succ]
theorem mput_of_none {j : Int} {v : Value} : ∀ {L : List (Int × Value)} {b : Nat}, mgetI j L b = none → mput j v L = L ++ [(j, v)]
  | [], b, _ => rfl
  | (a, w) :: L, b, h => by
    unfold mgetI at h
    unfold mput
    split at h
    · cases h
    · rename_i hk
      rw [if_neg hk, mput_of_none h, List.cons_append]

/-- 'm[k] = v'. -/
theorem MapAt.put (h : MapAt W m q L) (ht : P.underlying t = some (.map k e)) (hk : P.underlying k = some (.int q)) (j : Int) (v : Value) :
    ∃ W', (mapUpdate t (.map (some m)) (.int q j) v).run P W = .ok () W' ∧ MapAt W' m q (mput j v L) ∧ W.grownBy W' (some m) := by
  obtain ⟨es, clock, hb, hl, hn⟩ := h
  have hlt := (Array.getElem?_eq_some_iff.1 hb).1
  have hg : (getObj m).run P W = .ok (.map es clock) W := by simp [getObj, Sem.run, hb]
  have hc := run_checkKey_int (P := P) hk false (.int q j) W
  have hf := run_findKey_int (P := P) hk j es.toList hl W
  have hset : ∀ o : Obj, (setObj m o).run P W = .ok () (W.putObj m o) := by
    intro o
    simp [setObj, Sem.run, hb, World.putObj]
  cases hI : mgetI j L 0 with
  | none =>
    rw [hI] at hf
    refine ⟨W.putObj m (.map (es.push { key := .int q j, val := v, born := clock }) (clock + 1)), ?_, ⟨_, _, World.putObj_heap_same hlt, ?_, mput_nodup hn⟩, grownBy_putObj' W m _⟩
    · simp only [mapUpdate, Sem.run_bind, run_underlying ht, Result.andThen_ok, hg, hc, hf, hset]
    · rw [mput_of_none hI]
      simp [hl]
  | some x =>
    obtain ⟨i, u⟩ := x
    rw [hI] at hf
    obtain ⟨_, hi, hL⟩ := mgetI_spec j L 0 i u hI
    simp only [Nat.sub_zero] at hi hL
    have hlen : es.size = L.length := by have := congrArg List.length hl; simpa using this
    have hkey : (es[i]'(by omega)).key = .int q j := by
      have h1 := congrArg (fun l => l[i]?) hl
      simp [show i < es.size by omega, hi, hL] at h1
      exact h1.1
    have hs := run_keyThatStays_int (P := P) (q := q) j W
    refine ⟨W.putObj m (.map (es.modify i fun e => { e with key := .int q j, val := v }) clock), ?_, ⟨_, _, World.putObj_heap_same hlt, ?_, mput_nodup hn⟩, grownBy_putObj' W m _⟩
    · simp only [mapUpdate, Sem.run_bind, run_underlying ht, Result.andThen_ok, hg, hc, hf]
      have hd : (((es[i]?).map (·.key)).getD (.int q j)) = .int q j := by rw [Array.getElem?_eq_getElem (by omega)]; simp [hkey]
      rw [hd, hs]
      simp only [Result.andThen_ok, hset]
    · rw [mput_of_some hI hn, Nat.sub_zero]
      apply List.ext_getElem
      · simp [hlen]
      · intro n h1 h2
        have h0 := congrArg (fun l => l[n]?) hl
        simp only [List.length_map, Array.length_toList, Array.size_modify] at h1
        simp [show n < es.size by omega, show n < L.length by omega] at h0
        simp only [List.getElem_map, Array.getElem_toList, Array.getElem_modify, List.getElem_set]
        by_cases hin : i = n
        · subst hin; simp
        · simp [hin, h0.1, h0.2]
end
end Go.Proofs.YtjjphcnoegaimaaGreat

namespace Go.Proofs.YtjjphcnoegaimaaGreat
open Go.RowKit Go.Instr Go.Maps
open Go.MapKept (Stamped stamped_push stamped_modify stamped_erase stamped_empty)

/-- A map's block: pairs, each key once, with stamps. -/
def MapS (W : World) (m : Nat) (q : IntKind) (L : List (Int × Value)) : Prop :=
  ∃ es clock, W.heap[m]? = some (.map es clock) ∧ es.toList.map (fun e => (e.key, e.val)) = L.map (fun p => (Value.int q p.1, p.2)) ∧ (L.map Prod.fst).Nodup ∧ Stamped es clock ∧ ∀ p ∈ L, (Lit.int q p.1).wf = true

theorem MapS.mapAt {W : World} {m : Nat} {q : IntKind} {L : List (Int × Value)} (h : MapS W m q L) : MapAt W m q L := by
  obtain ⟨es, clock, h1, h2, h3, _⟩ := h
  exact ⟨es, clock, h1, h2, h3⟩
theorem MapS.of_block {W W' : World} {m : Nat} {q : IntKind} {L : List (Int × Value)} (h : MapS W m q L) (hb : W'.heap[m]? = W.heap[m]?) : MapS W' m q L := by
  obtain ⟨es, clock, h1, h2⟩ := h
  exact ⟨es, clock, hb.trans h1, h2⟩
theorem MapS.lt {W : World} {m : Nat} {q : IntKind} {L : List (Int × Value)} (h : MapS W m q L) : m < W.heap.size := h.mapAt.lt
theorem MapS.nodup {W : World} {m : Nat} {q : IntKind} {L : List (Int × Value)} (h : MapS W m q L) : (L.map Prod.fst).Nodup := by
  obtain ⟨es, clock, _, _, h3, _⟩ := h
  exact h3
theorem MapS.wf {W : World} {m : Nat} {q : IntKind} {L : List (Int × Value)} (h : MapS W m q L) : ∀ p ∈ L, (Lit.int q p.1).wf = true := by
  obtain ⟨es, clock, _, _, _, _, h5⟩ := h
  exact h5
theorem MapS.new (W : World) (q : IntKind) : MapS (W.alloc (.map #[] 0)) W.heap.size q [] := ⟨#[], 0, hp_new _ _ rfl, rfl, by simp, stamped_empty 0, by simp⟩

theorem mput_mem {k : Int} {v : Value} {l : List (Int × Value)} : ∀ p ∈ mput k v l, p.1 = k ∨ ∃ p' ∈ l, p'.1 = p.1 := by
  intro p hp
  have : p.1 ∈ (mput k v l).map Prod.fst := List.mem_map.2 ⟨p, hp, rfl⟩
  rw [mput_keys] at this
  split at this
  · obtain ⟨p', h1, h2⟩ := List.mem_map.1 this
    exact .inr ⟨p', h1, h2⟩
  · rcases List.mem_append.1 this with h | h
    · obtain ⟨p', h1, h2⟩ := List.mem_map.1 h
      exact .inr ⟨p', h1, h2⟩
    · exact .inl (by simpa using h)
theorem mdel_mem {k : Int} {l : List (Int × Value)} : ∀ p ∈ mdel k l, p ∈ l := by
  induction l with
  | nil => intro p h; simp [mdel] at h
  | cons x l ih =>
    obtain ⟨a, u⟩ := x
    intro p hp
    unfold mdel at hp
    split at hp
    · exact List.mem_cons_of_mem _ hp
    · rcases List.mem_cons.1 hp with rfl | hp
      · exact List.mem_cons_self
      · exact List.mem_cons_of_mem _ (ih p hp)
theorem mdel_nodup {k : Int} {l : List (Int × Value)} (h : (l.map Prod.fst).Nodup) : ((mdel k l).map Prod.fst).Nodup := by
  rw [mdel_keys h]
  exact h.filter _
theorem mdel_of_some {j : Int} {i : Nat} {u : Value} : ∀ {L : List (Int × Value)} {b : Nat}, mgetI j L b = some (i, u) → mdel j L = L.eraseIdx (i - b)
  | [], b, h => by simp [mgetI] at h
  | (a, w) :: L, b, h => by
    unfold mgetI at h
    unfold mdel
    split at h
    · rename_i hk
      simp only [Option.some.injEq, Prod.mk.injEq] at h
      obtain ⟨rfl, rfl⟩ := h
      simp [hk]
    · rename_i hk
      have := (mgetI_spec j L (b + 1) i u h).1
      rw [if_neg hk, mdel_of_some h, show i - b = (i - (b + 1)) + 1 by omega, List.eraseIdx_cons_succ]
theorem mdel_of_none {j : Int} : ∀ {L : List (Int × Value)} {b : Nat}, mgetI j L b = none → mdel j L = L
  | [], b, _ => rfl
  | (a, w) :: L, b, h => by
    unfold mgetI at h
    unfold mdel
    split at h
    · cases h
    · rename_i hk
      rw [if_neg hk, mdel_of_none h]

section
variable {P : Program} {t k e : TypeId} {q : IntKind} {W : World} {m : Nat} {L : List (Int × Value)}

theorem keys_of (q : IntKind) {es : List MapEntry} {L : List (Int × Value)} (h : es.map (fun e => (e.key, e.val)) = L.map (fun p => (Value.int q p.1, p.2))) : es.map (·.key) = L.map (fun p => Value.int q p.1) := by
  have := congrArg (List.map Prod.fst) h
  rw [List.map_map, List.map_map] at this
  exact this

/-- 'm[k] = v'. -/
theorem MapS.put (h : MapS W m q L) (ht : P.underlying t = some (.map k e)) (hk : P.underlying k = some (.int q)) (j : Int) (hj : (Lit.int q j).wf = true) (v : Value) :
    ∃ W', (mapUpdate t (.map (some m)) (.int q j) v).run P W = .ok () W' ∧ MapS W' m q (mput j v L) ∧ W.grownBy W' (some m) := by
  obtain ⟨es, clock, hb, hl, hn, hst, hw⟩ := h
  have hlt := (Array.getElem?_eq_some_iff.1 hb).1
  have hg : (getObj m).run P W = .ok (.map es clock) W := by simp [getObj, Sem.run, hb]
  have hc := run_checkKey_int (P := P) hk false (.int q j) W
  have hf := run_findKey_int (P := P) hk j es.toList hl W
  have hset : ∀ o : Obj, (setObj m o).run P W = .ok () (W.putObj m o) := by
    intro o
    simp [setObj, Sem.run, hb, World.putObj]
  have hw' : ∀ p ∈ mput j v L, (Lit.int q p.1).wf = true := by
    intro p hp
    rcases mput_mem p hp with e | ⟨p', h1, h2⟩
    · rw [e]; exact hj
    · rw [← h2]; exact hw p' h1
  have hks := keys_of q hl
  cases hI : mgetI j L 0 with
  | none =>
    rw [hI] at hf
    refine ⟨W.putObj m (.map (es.push { key := .int q j, val := v, born := clock }) (clock + 1)), ?_, ⟨_, _, World.putObj_heap_same hlt, ?_, mput_nodup hn, stamped_push hst ?_, hw'⟩, grownBy_putObj' W m _⟩
    · simp only [mapUpdate, Sem.run_bind, run_underlying ht, Result.andThen_ok, hg, hc, hf, hset]
    · rw [mput_of_none hI]
      simp [hl]
    · intro x hx e
      have h1 : x.key ∈ es.toList.map (·.key) := List.mem_map.2 ⟨x, hx, rfl⟩
      rw [hks, e] at h1
      obtain ⟨p, hp, he⟩ := List.mem_map.1 h1
      simp only [Value.int.injEq, true_and] at he
      have hm := mgetI_mget j L 0
      rw [hI] at hm
      exact mget_none.1 hm.symm (List.mem_map.2 ⟨p, hp, he⟩)
  | some x =>
    obtain ⟨i, u⟩ := x
    rw [hI] at hf
    obtain ⟨_, hi, hL⟩ := mgetI_spec j L 0 i u hI
    simp only [Nat.sub_zero] at hi hL
    have hlen : es.size = L.length := by have := congrArg List.length hl; simpa using this
    have hkey : (es[i]'(by omega)).key = .int q j := by
      have h1 := congrArg (fun l => l[i]?) hl
      simp [show i < es.size by omega, hi, hL] at h1
      exact h1.1
    have hs := run_keyThatStays_int (P := P) (q := q) j W
    refine ⟨W.putObj m (.map (es.modify i fun e => { e with key := .int q j, val := v }) clock), ?_, ⟨_, _, World.putObj_heap_same hlt, ?_, mput_nodup hn, stamped_modify hst i _ (fun _ _ => rfl) ?_, hw'⟩, grownBy_putObj' W m _⟩
    · simp only [mapUpdate, Sem.run_bind, run_underlying ht, Result.andThen_ok, hg, hc, hf]
      have hd : (((es[i]?).map (·.key)).getD (.int q j)) = .int q j := by rw [Array.getElem?_eq_getElem (by omega)]; simp [hkey]
      rw [hd, hs]
      simp only [Result.andThen_ok, hset]
    · rw [mput_of_some hI hn, Nat.sub_zero]
      apply List.ext_getElem
      · simp [hlen]
      · intro n h1 h2
        have h0 := congrArg (fun l => l[n]?) hl
        simp only [List.length_map, Array.length_toList, Array.size_modify] at h1
        simp [show n < es.size by omega, show n < L.length by omega] at h0
        simp only [List.getElem_map, Array.getElem_toList, Array.getElem_modify, List.getElem_set]
        by_cases hin : i = n
        · subst hin; simp
        · simp [hin, h0.1, h0.2]
    · intro x _ hx
      rw [Array.getElem?_eq_getElem (by omega)] at hx
      cases hx
      exact hkey.symm
/-- 'delete(m, k)'. -/
theorem MapS.del (h : MapS W m q L) (ht : P.underlying t = some (.map k e)) (hk : P.underlying k = some (.int q)) (j : Int) (ts : Array TypeId) (hts : ts[0]? = some t) (ty : TypeId) :
    ∃ W', (Builtin.delete_ ts ty #[.map (some m), .int q j]).run P W = .ok (.tuple #[]) W' ∧ MapS W' m q (mdel j L) ∧ W.grownBy W' (some m) := by
  obtain ⟨es, clock, hb, hl, hn, hst, hw⟩ := h
  have hlt := (Array.getElem?_eq_some_iff.1 hb).1
  have hg : (getObj m).run P W = .ok (.map es clock) W := by simp [getObj, Sem.run, hb]
  have hc := run_checkKey_int (P := P) hk es.isEmpty (.int q j) W
  have hf := run_findKey_int (P := P) hk j es.toList hl W
  have hset : ∀ o : Obj, (setObj m o).run P W = .ok () (W.putObj m o) := by
    intro o
    simp [setObj, Sem.run, hb, World.putObj]
  cases hI : mgetI j L 0 with
  | none =>
    rw [hI] at hf
    refine ⟨W.putObj m (.map es clock), ?_, ⟨_, _, World.putObj_heap_same hlt, ?_, mdel_nodup hn, hst, fun p hp => hw p (mdel_mem p hp)⟩, grownBy_putObj' W m _⟩
    · simp [Builtin.delete_, hts, Sem.run_bind, run_underlying ht, Result.andThen_ok, hg, hc, hf, hset]
    · rw [mdel_of_none hI]; exact hl
  | some x =>
    obtain ⟨i, u⟩ := x
    rw [hI] at hf
    obtain ⟨_, hi, hL⟩ := mgetI_spec j L 0 i u hI
    simp only [Nat.sub_zero] at hi hL
    have hlen : es.size = L.length := by have := congrArg List.length hl; simpa using this
    refine ⟨W.putObj m (.map (es.eraseIdxIfInBounds i) clock), ?_, ⟨_, _, World.putObj_heap_same hlt, ?_, mdel_nodup hn, stamped_erase hst i, fun p hp => hw p (mdel_mem p hp)⟩, grownBy_putObj' W m _⟩
    · simp [Builtin.delete_, hts, Sem.run_bind, run_underlying ht, Result.andThen_ok, hg, hc, hf, hset]
    · rw [mdel_of_some hI, Nat.sub_zero]
      unfold Array.eraseIdxIfInBounds
      rw [dif_pos (by omega)]
      simp only [Array.toList_eraseIdx]
      have e1 : ∀ {α β : Type} (f : α → β) (l : List α) (i : Nat), (l.eraseIdx i).map f = (l.map f).eraseIdx i := by
        intro α β f l
        induction l with
        | nil => intro i; rfl
        | cons a l ih =>
          intro i
          cases i with
          | zero => rfl
          | succ i => simp [ih]
      rw [e1, e1, hl]
/-- 'len(m)'. -/
theorem MapS.len (h : MapS W m q L) (ht : P.underlying t = some (.map k e)) (ty : TypeId) : (Builtin.len_ #[t] ty #[.map (some m)]).run P W = .ok (.int .i64 (L.length : Int)) W := by
  obtain ⟨es, clock, hb, hl, _⟩ := h
  have hg : (getObj m).run P W = .ok (.map es clock) W := by simp [getObj, Sem.run, hb]
  have hlen : es.size = L.length := by have := congrArg List.length hl; simpa using this
  simp [Builtin.len_, run_underlying ht, hg, hlen, goInt, Result.andThen]

/-- Whatever stands behind a key: for a range that looks at keys alone. -/
def anyR : Value → Option (DataW Unit × List MemPlace) := fun _ => some (.nil, [])
/-- What may be ranged over. -/
theorem MapS.owns (h : MapS W m q L) (hk : P.underlying k = some (.int q)) (hL : L.length ≤ maxLen) :
    ∃ D, W.ownsMap P k anyR m L.length D ∧ ∀ x, has D (.int q x) = true ↔ x ∈ L.map Prod.fst := by
  obtain ⟨es, clock, hb, hl, hn, hst, hw⟩ := h
  have hlen : es.size = L.length := by have := congrArg List.length hl; simpa using this
  have hks := keys_of q hl
  have hkey : ∀ x ∈ es.toList, ∃ a, x.key = .int q a ∧ (Lit.int q a).wf = true := by
    intro x hx
    have h1 : x.key ∈ es.toList.map (·.key) := List.mem_map.2 ⟨x, hx, rfl⟩
    rw [hks] at h1
    obtain ⟨p, hp, he⟩ := List.mem_map.1 h1
    exact ⟨p.1, he.symm, hw p hp⟩
  have hrd : ∀ x ∈ es.toList, ∀ a, x.key = .int q a → (Lit.int q a).wf = true → WideElems.rd P k anyR x = some (.int q a, .nil) := by
    intro x hx a ha hwa
    simp [WideElems.rd, ha, keyOf_int_mk hk hwa, anyR]
  refine ⟨_, ⟨es, clock, hb, ⟨by omega, hst, fun x hx => ?_⟩, by omega, rfl⟩, fun x => ?_⟩
  · obtain ⟨a, ha, hwa⟩ := hkey x hx
    exact ⟨_, hrd x hx a ha hwa⟩
  · rw [has_eq, List.any_eq_true]
    constructor
    · rintro ⟨p, hp, hs⟩
      rw [mem_sorted] at hp
      obtain ⟨y, hy, rfl⟩ := List.mem_map.1 hp
      obtain ⟨a, ha, hwa⟩ := hkey y hy
      rw [WideElems.rg_of (hrd y hy a ha hwa)] at hs
      have hax : a = x := by simpa [Lit.sameKey] using hs
      have h1 : y.key ∈ es.toList.map (·.key) := List.mem_map.2 ⟨y, hy, rfl⟩
      rw [hks, ha, hax] at h1
      obtain ⟨p, hp, he⟩ := List.mem_map.1 h1
      simp only [Value.int.injEq, true_and] at he
      exact List.mem_map.2 ⟨p, hp, he⟩
    · intro hx
      obtain ⟨p, hp, he⟩ := List.mem_map.1 hx
      have h1 : Value.int q p.1 ∈ L.map (fun p => Value.int q p.1) := List.mem_map.2 ⟨p, hp, rfl⟩
      rw [← hks] at h1
      obtain ⟨y, hy, hy2⟩ := List.mem_map.1 h1
      refine ⟨WideElems.rg P k anyR y, mem_sorted.2 (List.mem_map.2 ⟨y, hy, rfl⟩), ?_⟩
      rw [WideElems.rg_of (hrd y hy p.1 hy2 (hw p hp))]
      simp [Lit.sameKey, he]
end

/-- The keys that came so far. -/
def Came (q : IntKind) (D0 : DataW Unit) (left : Lit → Bool) (ss : List Int) : Prop := ss.Nodup ∧ ∀ x, x ∈ ss ↔ (has D0 (.int q x) = true ∧ left (.int q x) = false)
theorem Came.start (q : IntKind) (D0 : DataW Unit) : Came q D0 (has D0) [] := ⟨List.nodup_nil, fun x => by cases has D0 (.int q x) <;> simp⟩
theorem Came.step {q : IntKind} {D0 : DataW Unit} {left : Lit → Bool} {ss : List Int} (h : Came q D0 left ss) {x : Int} {y : DataW Unit} (hlk : left (.int q x) = true) (hat : ∀ zd, D0.atKey (.int q x) zd = y) : Came q D0 (fun z => left z && !z.sameKey (.int q x)) (ss ++ [x]) := by
  have hhas : has D0 (.int q x) = true := has_true_of_atKey hat
  have hnew : x ∉ ss := fun hx => by have := ((h.2 x).1 hx).2; rw [hlk] at this; cases this
  refine ⟨List.nodup_append.2 ⟨h.1, by simp, fun a ha b hb => by simp at hb; subst hb; exact fun e => hnew (e ▸ ha)⟩, fun y => ?_⟩
  by_cases hy : y = x
  · subst hy; simp [hhas, Lit.sameKey]
  · simp [h.2 y, hy, Lit.sameKey]
theorem Came.len {q : IntKind} {D0 : DataW Unit} {left : Lit → Bool} {ss K : List Int} (h : Came q D0 left ss) (hD : ∀ x, has D0 (.int q x) = true ↔ x ∈ K) : ss.length ≤ K.length := by
  have hsub : ∀ (a b : List Int), a.Nodup → (∀ x ∈ a, x ∈ b) → a.length ≤ b.length := by
    intro a
    induction a with
    | nil => intro b _ _; simp
    | cons x a ih =>
      intro b hn hs
      rw [List.nodup_cons] at hn
      have hxb : x ∈ b := hs x (by simp)
      have := ih (b.erase x) hn.2 (fun y hy => (List.mem_erase_of_ne (by rintro rfl; exact hn.1 hy)).2 (hs y (by simp [hy])))
      rw [List.length_erase_of_mem hxb] at this
      have : 0 < b.length := List.length_pos_of_mem hxb
      simp only [List.length_cons]
      omega
  exact hsub ss K h.1 fun x hx => (hD x).1 ((h.2 x).1 hx).1
theorem Came.perm {q : IntKind} {D0 : DataW Unit} {left : Lit → Bool} {ss K : List Int} (h : Came q D0 left ss) (hK : K.Nodup) (hD : ∀ x, has D0 (.int q x) = true ↔ x ∈ K) (hl : ∀ kl, left kl = false) : ss.Perm K := by
  refine (List.perm_ext_iff_of_nodup h.1 hK).2 fun x => ?_
  rw [h.2 x, hl, hD x]
  simp
theorem keyOf_q {P : Program} {k : TypeId} {q : IntKind} (hk : P.underlying k = some (.int q)) {key : Value} {kl : Lit} (h : keyOf P k key = some kl) : ∃ x : Int, key = .int q x ∧ kl = .int q x ∧ (Lit.int q x).wf = true := by
  cases key <;> simp [keyOf, hk, mapKey] at h
  rename_i q' a
  obtain ⟨⟨rfl, hw⟩, rfl⟩ := h
  exact ⟨a, rfl, rfl, hw⟩
end Go.Proofs.YtjjphcnoegaimaaGreat

namespace Go.Proofs.YtjjphcnoegaimaaGreat
open Go.RowKit

/-- 'append' to an own row: the row stays where it lay, or lies in a new block. -/
theorem wpList_append_row {P : Program} (w : World) {ops : Array Oper} {rest : List Oper} {o : Oper} {a : Act} {Q : Exit → Act → World → Prop} (hgd : o.guard = none) (s x : Operand) (t : TypeId)
    (ho : o.op = .call { callee := .builtin .append, args := #[s, x], argTypes := #[t, t] })
    (e : TypeId) (i : TypeInfo) (z : Value) (size bytes : Nat) (ht : P.underlying t = some (.slice e)) (hi : P.info? e = some i) (hz : i.zero = some z)
    (hsize : i.size = size) (hby : i.bytes = bytes) (hzs : z.cells.size = size) (hsz : 0 < size)
    (v : Value) (n : Nat) (xs : List Value) (hs : a.eval s = v) (hown : w.ownsRow 0 e size v n xs)
    (ad : Addr) (m c : Nat) (news : List Value) (hx : a.eval x = .slice (some ad) m c) (hl : news.length = m * size) (hnews : ∀ j u, news[j]? = some u → w.cell? (ad.add j) = some u) (h1 : ∀ u ∈ news, u.oneCell' = true)
    (h63 : n + m ≤ maxLen) (hbytes : (n + m) * bytes ≤ 140737488355328)
    (h : ∀ v' w', w'.ownsRow 0 e size v' (n + m) (xs ++ news) → w.grownBy w' v.ownBlock → (v'.ownBlock = v.ownBlock ∨ ∃ g, v'.ownBlock = some g ∧ w.heap.size ≤ g ∧ g < w'.heap.size) → wpList P ops Q rest (a.put o.dst v') w') : wpList P ops Q (o :: rest) a w := by
  obtain ⟨hlen, hrow⟩ := hown
  rcases hrow with ⟨rfl, rfl⟩ | ⟨g, cap, cur, rfl, h0, hb, hnc, hcm, hcs, hct⟩
  · refine wpList_append_own w hgd s x t ho w.heap.size e i z size bytes ht hi hz hsize hby hzs hsz _ 0 xs hs ⟨hlen, .inl ⟨rfl, rfl⟩⟩ ad m c news hx hl hnews h1 h63 hbytes (Nat.le_refl _) ?_
    intro v' w' hown' hg _
    obtain ⟨hlen', hrow'⟩ := hown'
    refine h v' w' ⟨hlen', ?_⟩ hg ?_
    · rcases hrow' with h' | ⟨g, cap, cur, a1, a2, a3⟩
      · exact .inl h'
      · exact .inr ⟨g, cap, cur, a1, Nat.zero_le _, a3⟩
    · rcases hrow' with ⟨rfl, _⟩ | ⟨g, cap, cur, rfl, a2, a3, _⟩
      · exact .inl rfl
      · exact .inr ⟨g, rfl, a2, (Array.getElem?_eq_some_iff.1 a3).1⟩
  · by_cases hfit : n + m ≤ cap
    · refine wpList_append_fits w hgd s x t ho 0 e i size ht hi hsize g n cap xs hs ⟨hlen, .inr ⟨g, cap, cur, rfl, h0, hb, hnc, hcm, hcs, hct⟩⟩ ad m c news hx hl hnews h1 hfit ?_
      intro w' hown' hg
      exact h _ w' hown' hg (.inl rfl)
    · refine wpList_append_grows w hgd s x t ho e i z size bytes ht hi hz hsize hby hzs hsz (some ⟨g, 0, none⟩) n cap xs hs (fun e => by cases e) hlen ?_ ad m c news hx hl hnews h1 (by omega) h63 hbytes ?_
      · intro b hb' j u hj
        cases hb'
        rw [Addr.add_lit, Nat.zero_add, cl_of hb]
        rw [← hct] at hj
        rw [List.getElem?_take] at hj
        split at hj
        · simpa using hj
        · cases hj
      · intro v' w' hown' hg
        obtain ⟨hlen', hrow'⟩ := hown'
        refine h v' w' ⟨hlen', ?_⟩ ⟨hg.os, hg.tape, hg.output, hg.size, fun k hk _ => hg.block k hk (by simp)⟩ ?_
        · rcases hrow' with h' | ⟨g, cap, cur, a1, a2, a3⟩
          · exact .inl h'
          · exact .inr ⟨g, cap, cur, a1, Nat.zero_le _, a3⟩
        · rcases hrow' with ⟨rfl, hz⟩ | ⟨g, cap, cur, rfl, a2, a3, _⟩
          · exfalso
            omega
          · exact .inr ⟨g, rfl, a2, (Array.getElem?_eq_some_iff.1 a3).1⟩

/-- An own row while other blocks turn. -/
theorem ownsRow_of_block {W W' : World} {e : TypeId} {size : Nat} {v : Value} {n : Nat} {xs : List Value} (h : W.ownsRow 0 e size v n xs) (hb : ∀ k, v.ownBlock = some k → W'.heap[k]? = W.heap[k]?) : W'.ownsRow 0 e size v n xs := by
  obtain ⟨hlen, hrow⟩ := h
  refine ⟨hlen, ?_⟩
  rcases hrow with h' | ⟨g, cap, cur, rfl, h0, hh, hr⟩
  · exact .inl h'
  · exact .inr ⟨g, cap, cur, rfl, h0, (hb g rfl).trans hh, hr⟩
theorem ownsRow_lt {W : World} {e : TypeId} {size : Nat} {v : Value} {n : Nat} {xs : List Value} (h : W.ownsRow 0 e size v n xs) {k : Nat} (hk : v.ownBlock = some k) : k < W.heap.size := by
  rcases h.2 with ⟨rfl, _⟩ | ⟨g, cap, cur, rfl, h0, hh, hr⟩
  · cases hk
  · cases hk
    exact (Array.getElem?_eq_some_iff.1 hh).1
theorem ownsRow_type {W : World} {e : TypeId} {size : Nat} {v : Value} {n : Nat} {xs : List Value} (h : W.ownsRow 0 e size v n xs) {k : Nat} (hk : v.ownBlock = some k) : ∃ cur, W.heap[k]? = some (.cells cur e (0, 0)) := by
  rcases h.2 with ⟨rfl, _⟩ | ⟨g, cap, cur, rfl, h0, hh, hr⟩
  · cases hk
  · cases hk
    exact ⟨cur, hh⟩
/-- An own row's cells. -/
theorem ownsRow_cell {W : World} {e : TypeId} {size : Nat} {v : Value} {n : Nat} {xs : List Value} (h : W.ownsRow 0 e size v n xs) {g cap : Nat} (hv : v = .slice (some ⟨g, 0, none⟩) n cap) {j : Nat} {u : Value} (hj : xs[j]? = some u) : W.cell? ⟨g, j, none⟩ = some u := by
  subst hv
  rcases h.2 with ⟨hv, _⟩ | ⟨g', cap', cur, hv, h0, hh, hnc, hcm, hcs, hct⟩
  · cases hv
  · cases hv
    rw [cl_of hh]
    rw [← hct, List.getElem?_take] at hj
    split at hj
    · simpa using hj
    · cases hj
theorem Fr.of_grownBy {w w' : World} {row : Option Nat} (h : w.grownBy w' row) : Fr (fun k => some k = row) w w' := ⟨h.os, h.tape, h.output, h.size, fun k hk hn => h.block k hk hn⟩
end Go.Proofs.YtjjphcnoegaimaaGreat

namespace Go.Proofs.YtjjphcnoegaimaaGreat
open Go.RowKit

section
variable {P : Program} {md : Region.Mode} {ops : Array Oper} {Q : Exit → Act → World → Prop} {S T : World → Prop}
/-- A stronger S serves. -/
theorem wpAnyH_mono (hST : ∀ w, T w → S w) : ∀ (fuel : Nat) (listed : Array Bool) (a : Act) (w : World), wpAnyH P md ops Q T fuel listed a w → wpAnyH P md ops Q S fuel listed a w
  | 0, _, _, _, h => h
  | fuel + 1, _, _, _, h => ⟨h.1, fun i hi => wpOp_mono (fun a' w' h' => ⟨hST w' h'.1, wpAnyH_mono hST fuel _ a' w' h'.2⟩) (h.2 i hi)⟩
/-- S is strengthened. -/
theorem wpAnyH_more {fuel : Nat} {listed : Array Bool} {a : Act} {w : World} (T : World → Prop) (hST : ∀ w, T w → S w) (hT : T w) (h : T w → wpAnyH P md ops Q T fuel listed a w) : wpAnyH P md ops Q S fuel listed a w :=
  wpAnyH_mono hST fuel listed a w (h hT)
end
section
variable {P : Program} {md : Region.Mode} {l : List Oper} {Q : Exit → Act → World → Prop} {S T : World → Prop}
theorem get_list {l : List Oper} {i : Nat} {o : Oper} (h : l[i]? = some o) : l.toArray[i]? = some o := by simpa using h
/-- What is not wanted is skipped. -/
theorem wpAnyH_skip {i : Nat} {oi : Oper} {fuel : Nat} {listed : Array Bool} {a : Act} {w : World} (hi : l[i]? = some oi)
    (hs : Region.noSelect l.toArray = true) (hf : Region.free md l.toArray listed i = true) (hr : (Region.ready md l.toArray listed).contains i = true)
    (hQ : ∀ c a w, Q (.panic c) (a.put oi.dst undef) w → Q (.panic c) a w) (hw : Region.wanted oi (yielded l.toArray a.tmps) = false) (hS : S w)
    (h : wpAnyH P md l.toArray Q S fuel (listed.setIfInBounds i true) (a.put oi.dst undef) w) : wpAnyH P md l.toArray Q S (fuel + 1) listed a w :=
  wpAnyH_take (get_list hi) hs hf hr hQ (.inr ⟨hw, rfl⟩) hS h
/-- What yields under S is taken. -/
theorem wpAnyH_now {i : Nat} {oi : Oper} {v : Value} {fuel : Nat} {listed : Array Bool} {a : Act} {w : World} (hi : l[i]? = some oi)
    (hs : Region.noSelect l.toArray = true) (hf : Region.free md l.toArray listed i = true) (hr : (Region.ready md l.toArray listed).contains i = true)
    (hQ : ∀ c a w, Q (.panic c) (a.put oi.dst v) w → Q (.panic c) a w) (hw : Region.wanted oi (yielded l.toArray a.tmps) = true) (hy : ∀ w, S w → (execOp a.eval oi).run P w = .ok (.value v) w) (hS : S w)
    (h : wpAnyH P md l.toArray Q S fuel (listed.setIfInBounds i true) (a.put oi.dst v) w) : wpAnyH P md l.toArray Q S (fuel + 1) listed a w :=
  wpAnyH_take (get_list hi) hs hf hr hQ (.inl ⟨hw, hy⟩) hS h
/-- What alone may come up is carried out. -/
theorem wpAnyH_only {i : Nat} {oi : Oper} {fuel : Nat} {listed : Array Bool} {a : Act} {w : World} (hr : Region.ready md l.toArray listed = [i]) (hi : l[i]? = some oi) (hw : Region.wanted oi (yielded l.toArray a.tmps) = true)
    (h : ∀ K' : Act → World → Prop, Shut (∀ a w, S w → (S w → wpAnyH P md l.toArray Q S fuel (listed.setIfInBounds i true) a w) → K' a w) → Oper.wp P oi a w K' Q) : wpAnyH P md l.toArray Q S (fuel + 1) listed a w :=
  wpAnyH_ready hr (by simp) (AllReadyH.cons (get_list hi) (fun K hK => by rw [if_pos hw]; exact h K hK) AllReadyH.nil)
end
/-- A region whose first n operations read, and whose last ones come in a forced order, in the text's order; the world behind the draw has a name. -/
theorem wp_region_tail {P : Program} {id : Nat} {Q : Exit → Act → World → Prop} {a : Act} {w : World} {l : List Oper} (n : Nat) (hm : P.follows .mixedOrders = true) (hB : Region.lexTailB .any l.toArray n = true)
    (h : ∀ W2, Hid (W2 = w.drew) → wpStill P l.toArray W2 (fun a' => wpList P l.toArray Q (l.drop n) a' W2) (l.take n) a) : (Code.region id l.toArray true).wp P Q a w :=
  wp_region_still_tail n hm hB (h _ (Lib.hid rfl))
end Go.Proofs.YtjjphcnoegaimaaGreat

namespace Go.Proofs.YtjjphcnoegaimaaGreat
open Go.RowKit

/-- No operation of the row defers a call. -/
def noDefer (ops : Array Oper) : Bool := ops.all fun o => match o.op with | .defer _ => false | _ => true
theorem noDefer_spec {ops : Array Oper} (h : noDefer ops = true) {i : Nat} {o : Oper} (ho : ops[i]? = some o) : ∀ c, o.op ≠ .defer c := by
  obtain ⟨hi, e⟩ := Array.getElem?_eq_some_iff.1 ho
  have := Array.all_eq_true.1 h i hi
  rw [e] at this
  intro c hc
  rw [hc] at this
  cases this

theorem Oper.wpIn_round {P : Program} {n l : Nat} {o : Oper} {a : Act} {w : World} {K : Act → World → Prop} {Q : Exit → Act → World → Prop} (hd : ∀ c, o.op ≠ .defer c) (h : o.wp P a w K Q) : o.wpIn (Fence.wide.inRound l) n P a w K Q := by
  refine ⟨fun _ _ => trivial, ?_⟩
  rw [Oper.semAt_eq _ _ _ hd]
  unfold Oper.wp at h
  generalize (execOp a.eval o).run P w = r at *
  cases r with
  | ok x w' =>
    cases x with
    | value v => exact h
    | skip => exact h
    | defer d => exact h
    | enter f args =>
      rw [Oper.uponIn_enter]
      refine ⟨fun e => (by cases e), CallsIn.inRound l (callsIn_wide.2 ?_)⟩
      exact Calls.mono h (fun e w'' he => by cases e <;> exact he)
    | row row args =>
      rw [Oper.uponIn_row]
      refine ⟨fun e => (by cases e), fun c cs _ => ?_⟩
      have h' : Rows P row args w' (fun v w'' => K (a.put o.dst v) w'') := h
      obtain ⟨v, w'', r, s⟩ := h' c cs
      exact ⟨v, w'', r, stepsIn_wide.2 s⟩
    | _ => exact h.elim
  | halt x w' =>
    cases x with
    | panic v => exact h
    | _ => exact h.elim

theorem wpAnyIn_round {P : Program} {n l : Nat} {md : Region.Mode} {ops : Array Oper} {Q : Exit → Act → World → Prop} (hd : noDefer ops = true) (hQ : ¬ LetsOut Q) :
    ∀ (fuel : Nat) (listed : Array Bool) (a : Act) (w : World), wpAny P md ops Q fuel listed a w → wpAnyIn (Fence.wide.inRound l) n P md ops Q fuel listed a w
  | 0, _, _, _, h => h
  | fuel + 1, listed, a, w, h => by
    refine ⟨h.1, fun i hi => ?_⟩
    have h2 := h.2 i hi
    unfold wpOp at h2
    unfold wpOpIn
    split
    · rename_i e
      simp only [e] at h2
      exact wpAnyIn_round hd hQ fuel _ _ _ h2
    · rename_i o e
      simp only [e] at h2
      split
      · rename_i hw
        simp only [hw, if_true] at h2
        rcases h2 with h2 | h2
        · exact Oper.wpIn_round (noDefer_spec hd e) (Oper.wp_mono (fun a' w' h' => wpAnyIn_round hd hQ fuel _ a' w' h') h2)
        · exact absurd h2.2 hQ
      · rename_i hw
        simp only [hw, Bool.false_eq_true, if_false] at h2
        exact ⟨fun _ _ => trivial, wpAnyIn_round hd hQ fuel _ _ _ h2⟩

/-- Reads first, once, in the order of the text; then what is behind them. -/
theorem wpIn_region_still_tail_round {P : Program} {id n k : Nat} {Q : Exit → Act → World → Prop} {a : Act} {w : World} {l : List Oper} (r : Nat) (hm : P.follows .mixedOrders = true) (hB : Region.lexTailB .any l.toArray r = true) (hd : noDefer l.toArray = true) (hQ : ¬ LetsOut Q)
    (h : wpStill P l.toArray w.drew (fun a' => wpList P l.toArray Q (l.drop r) a' w.drew) (l.take r) a) : (Code.region id l.toArray true).wpIn (Fence.wide.inRound k) n P Q a w := by
  simp only [Region.lexTailB, Bool.and_eq_true, decide_eq_true_eq] at hB
  obtain ⟨⟨⟨⟨hsel, hn⟩, hs⟩, hc⟩, hlex⟩ := hB
  have hn' : r < l.length := by simpa using hn
  have htl : (l.take r).length = r := by simp; omega
  have hdl : (l.drop r).length = l.toArray.size - r := by simp
  have inv0 : HeadInv .any l.toArray r (Array.replicate l.toArray.size false) :=
    ⟨by simp, fun j oj _ hl => (by rw [getD_replicate_false] at hl; cases hl), fun t _ ht => getD_in (by simpa using ht) (getD_replicate_false _ _)⟩
  have H := wpAnyL_lex (md := .any) (g := l.toArray.size - r) hsel hs hc hn (l.take r) 0 _ a (fun j hj => by
    have hj' : j < r := by rw [htl] at hj; exact hj
    simp [hj']) (by simpa using htl) inv0 (by rw [htl]; exact hlex) h
  refine wpIn_region_any hm ?_
  have := wpAny_of_head (Q' := Q) (g := l.toArray.size - r) (fun listed a' hL => by
    have := wpAny_of_seq (md := .any) (Q' := Q) (l.drop r) r listed a' w.drew (fun j => by simp [List.getElem?_drop]) (by rw [hdl]; exact hL.1) hL.2
    rwa [hdl] at this) _ _ _ H
  rw [htl, show r + (l.toArray.size - r) = l.toArray.size by omega] at this
  exact wpAnyIn_round hd hQ _ _ _ _ this
end Go.Proofs.YtjjphcnoegaimaaGreat
