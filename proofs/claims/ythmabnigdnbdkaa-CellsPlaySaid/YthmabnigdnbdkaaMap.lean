/- Maps with keys of an integer kind and whatever values, in plain words: a map's block as a list of pairs in the order in which they came. -/
import Derived.Test.YthmabnigdnbdkaaBase
namespace Go.Proofs.Ythmabnigdnbdkaa
open Go.RowKit Go.Instr

def mgetI (k : Int) : List (Int × Value) → Nat → Option (Nat × Value)
  | [], _ => none
  | (a, v) :: l, i => if k = a then some (i, v) else mgetI k l (i + 1)
/-- What a map has of a key. -/
def mget (k : Int) : List (Int × Value) → Option Value
  | [] => none
  | (a, v) :: l => if k = a then some v else mget k l
/-- A map with a key set. -/
def mput (k : Int) (v : Value) : List (Int × Value) → List (Int × Value)
  | [] => [(k, v)]
  | (a, u) :: l => if k = a then (a, v) :: l else (a, u) :: mput k v l
/-- A map without a key. -/
def mdel (k : Int) : List (Int × Value) → List (Int × Value)
  | [] => []
  | (a, u) :: l => if k = a then l else (a, u) :: mdel k l

theorem mget_put_same (k : Int) (v : Value) (l : List (Int × Value)) : mget k (mput k v l) = some v := by
  induction l with
  | nil => simp [mput, mget]
  | cons x l ih =>
    obtain ⟨a, u⟩ := x
    unfold mput
    by_cases h : k = a
    · simp [h, mget]
    · simp [h, mget, ih]
theorem mget_put_other {k j : Int} (hk : j ≠ k) (v : Value) (l : List (Int × Value)) : mget j (mput k v l) = mget j l := by
  induction l with
  | nil => simp [mput, mget, hk]
  | cons x l ih =>
    obtain ⟨a, u⟩ := x
    unfold mput
    by_cases h : k = a
    · subst h
      simp [mget, hk]
    · simp [h, mget, ih]
theorem mget_put (k j : Int) (v : Value) (l : List (Int × Value)) : mget j (mput k v l) = if j = k then some v else mget j l := by
  by_cases h : j = k
  · subst h; rw [if_pos rfl, mget_put_same]
  · rw [if_neg h, mget_put_other h]
theorem mput_keys (k : Int) (v : Value) (l : List (Int × Value)) : (mput k v l).map Prod.fst = if k ∈ l.map Prod.fst then l.map Prod.fst else l.map Prod.fst ++ [k] := by
  induction l with
  | nil => simp [mput]
  | cons x l ih =>
    obtain ⟨a, u⟩ := x
    unfold mput
    by_cases h : k = a
    · simp [h]
    · simp only [h, if_false, List.map_cons, ih, List.mem_cons, false_or]
      split <;> simp_all
theorem mget_none {k : Int} {l : List (Int × Value)} : mget k l = none ↔ k ∉ l.map Prod.fst := by
  induction l with
  | nil => simp [mget]
  | cons x l ih =>
    obtain ⟨a, u⟩ := x
    unfold mget
    by_cases h : k = a
    · simp [h]
    · simp [h, ih]
theorem mput_nodup {k : Int} {v : Value} {l : List (Int × Value)} (h : (l.map Prod.fst).Nodup) : ((mput k v l).map Prod.fst).Nodup := by
  rw [mput_keys]
  split
  · exact h
  · rename_i hk
    rw [List.nodup_append]
    refine ⟨h, by simp, ?_⟩
    intro a ha b hb e
    simp at hb
    subst hb; subst e
    exact hk ha
theorem mdel_keys {k : Int} {l : List (Int × Value)} (h : (l.map Prod.fst).Nodup) : (mdel k l).map Prod.fst = (l.map Prod.fst).filter (· ≠ k) := by
  induction l with
  | nil => rfl
  | cons x l ih =>
    obtain ⟨a, u⟩ := x
    simp only [List.map_cons, List.nodup_cons] at h
    unfold mdel
    by_cases hk : k = a
    · subst hk
      simp only [if_true, List.map_cons, ne_eq, not_true, decide_false, List.filter_cons, Bool.false_eq_true, if_false]
      rw [List.filter_eq_self.2]
      intro b hb
      have : b ≠ k := fun e => h.1 (e ▸ hb)
      simpa using this
    · have hk' : ¬ a = k := fun e => hk e.symm
      simp only [hk, if_false, List.map_cons, ih h.2, List.filter_cons, ne_eq, hk', not_false_iff, decide_true, if_true]
theorem mget_del {k : Int} {l : List (Int × Value)} (h : (l.map Prod.fst).Nodup) (j : Int) : mget j (mdel k l) = if j = k then none else mget j l := by
  induction l with
  | nil => simp [mdel, mget]
  | cons x l ih =>
    obtain ⟨a, u⟩ := x
    simp only [List.map_cons, List.nodup_cons] at h
    unfold mdel
    by_cases hk : k = a
    · subst hk
      rw [if_pos rfl]
      by_cases hj : j = k
      · subst hj; rw [if_pos rfl]; exact mget_none.2 h.1
      · simp [hj, mget]
    · rw [if_neg hk]
      by_cases hj : j = a
      · subst hj
        rw [if_neg (fun e => hk e.symm)]
        simp [mget]
      · simp only [mget, hj, if_false, ih h.2]

/-- A map's block: pairs, each key once. -/
def MapAt (W : World) (m : Nat) (q : IntKind) (L : List (Int × Value)) : Prop :=
  ∃ es clock, W.heap[m]? = some (.map es clock) ∧ es.toList.map (fun e => (e.key, e.val)) = L.map (fun p => (Value.int q p.1, p.2)) ∧ (L.map Prod.fst).Nodup

theorem MapAt.of_block {W W' : World} {m : Nat} {q : IntKind} {L : List (Int × Value)} (h : MapAt W m q L) (hb : W'.heap[m]? = W.heap[m]?) : MapAt W' m q L := by
  obtain ⟨es, clock, h1, h2⟩ := h
  exact ⟨es, clock, hb.trans h1, h2⟩
theorem MapAt.lt {W : World} {m : Nat} {q : IntKind} {L : List (Int × Value)} (h : MapAt W m q L) : m < W.heap.size := by
  obtain ⟨es, clock, h1, _⟩ := h
  exact (Array.getElem?_eq_some_iff.1 h1).1
theorem MapAt.new (W : World) (q : IntKind) : MapAt (W.alloc (.map #[] 0)) W.heap.size q [] := ⟨#[], 0, hp_new _ _ rfl, rfl, by simp⟩

theorem findNow_list (q : IntKind) (k : Int) : ∀ (es : List MapEntry) (L : List (Int × Value)) (i : Nat), es.map (fun e => (e.key, e.val)) = L.map (fun p => (Value.int q p.1, p.2)) →
    findNow (.int q) (.int q k) es i = some (mgetI k L i)
  | [], [], i, _ => rfl
  | [], _ :: _, _, h => by simp at h
  | _ :: _, [], _, h => by simp at h
  | e :: es, (a, v) :: L, i, h => by
    simp only [List.map_cons, List.cons.injEq, Prod.mk.injEq] at h
    obtain ⟨⟨hk, hv⟩, ht⟩ := h
    have hs : sameNow (.int q) (.int q k) e.key = some (k == a) := by rw [hk]; simp [sameNow]
    unfold findNow mgetI
    by_cases hka : k = a
    · have hb : (k == a) = true := by simpa using hka
      rw [hs, hb, if_pos hka, hv]
    · have hb : (k == a) = false := by simpa using hka
      rw [hs, hb, if_neg hka]
      exact findNow_list q k es L (i + 1) ht

theorem mgetI_mget (k : Int) : ∀ (L : List (Int × Value)) (i : Nat), (mgetI k L i).map (·.2) = mget k L
  | [], i => rfl
  | (a, v) :: L, i => by
    unfold mgetI mget
    split
    · rfl
    · exact mgetI_mget k L (i + 1)
theorem mgetI_spec (k : Int) : ∀ (L : List (Int × Value)) (i j : Nat) (v : Value), mgetI k L i = some (j, v) → i ≤ j ∧ ∃ h : j - i < L.length, L[j - i] = (k, v)
  | [], i, j, v, h => by simp [mgetI] at h
  | (a, u) :: L, i, j, v, h => by
    unfold mgetI at h
    split at h
    · rename_i hk
      simp only [Option.some.injEq, Prod.mk.injEq] at h
      obtain ⟨rfl, rfl⟩ := h
      exact ⟨Nat.le_refl _, by simp [hk]⟩
    · obtain ⟨h1, h2, h3⟩ := mgetI_spec k L (i + 1) j v h
      have e : j - i = (j - (i + 1)) + 1 := by omega
      refine ⟨by omega, by simp; omega, ?_⟩
      simp only [e, List.getElem_cons_succ]
      exact h3

section
variable {P : Program} {t k e : TypeId} {q : IntKind} {W : World} {m : Nat} {L : List (Int × Value)}

theorem run_checkKey_int (hk : P.underlying k = some (.int q)) (b : Bool) (v : Value) (W : World) : (checkKey b 10000 k v).run P W = .ok () W := by
  unfold checkKey
  rw [Sem.run_bind, run_underlying hk]
  rfl
theorem run_findKey_int (hk : P.underlying k = some (.int q)) (j : Int) (es : List MapEntry) (h : es.map (fun e => (e.key, e.val)) = L.map (fun p => (Value.int q p.1, p.2))) (W : World) :
    (findKey k (.int q j) es).run P W = .ok (mgetI j L 0) W := by
  simp [findKey, run_underlying hk, findNow_list q j es L 0 h]
theorem run_keyThatStays_int (a : Int) (W : World) : (keyThatStays (.int q a) (.int q a)).run P W = .ok (.int q a) W := by
  simp [keyThatStays, sameBits]

/-- 'm[k]'. -/
theorem MapAt.look (h : MapAt W m q L) (ht : P.underlying t = some (.map k e)) (hk : P.underlying k = some (.int q)) {z : Value} (hz : (zeroValue e).run P W = .ok z W) (j : Int) :
    (lookup t (.map (some m)) (.int q j) false).run P W = .ok ((mget j L).getD z) W := by
  obtain ⟨es, clock, hb, hl, _⟩ := h
  have hg : (getObj m).run P W = .ok (.map es clock) W := by simp [getObj, Sem.run, hb]
  have hc := run_checkKey_int (P := P) hk es.isEmpty (.int q j) W
  have hf := run_findKey_int (P := P) hk j es.toList hl W
  have hm := mgetI_mget j L 0
  simp only [lookup, Sem.run_bind, run_underlying ht, Result.andThen_ok, hg, Sem.run_pure, hc, hf]
  cases hI : mgetI j L 0 with
  | none => rw [hI] at hm; simp [← hm, hz]
  | some x => rw [hI] at hm; simp [← hm]
/-- 'v, ok := m[k]'. -/
theorem MapAt.look_ok (h : MapAt W m q L) (ht : P.underlying t = some (.map k e)) (hk : P.underlying k = some (.int q)) {z : Value} (hz : (zeroValue e).run P W = .ok z W) (j : Int) :
    (lookup t (.map (some m)) (.int q j) true).run P W = .ok (.tuple #[(mget j L).getD z, .bool (mget j L).isSome]) W := by
  obtain ⟨es, clock, hb, hl, _⟩ := h
  have hg : (getObj m).run P W = .ok (.map es clock) W := by simp [getObj, Sem.run, hb]
  have hc := run_checkKey_int (P := P) hk es.isEmpty (.int q j) W
  have hf := run_findKey_int (P := P) hk j es.toList hl W
  have hm := mgetI_mget j L 0
  simp only [lookup, Sem.run_bind, run_underlying ht, Result.andThen_ok, hg, Sem.run_pure, hc, hf]
  cases hI : mgetI j L 0 with
  | none => rw [hI] at hm; simp [← hm, hz]
  | some x => rw [hI] at hm; simp [← hm]

theorem mput_of_some {j : Int} {i : Nat} {u v : Value} : ∀ {L : List (Int × Value)} {b : Nat}, mgetI j L b = some (i, u) → (L.map Prod.fst).Nodup → mput j v L = L.set (i - b) (j, v)
  | [], b, h, _ => by simp [mgetI] at h
  | (a, w) :: L, b, h, hn => by
    simp only [List.map_cons, List.nodup_cons] at hn
    unfold mgetI at h
    unfold mput
    split at h
    · rename_i hk
      simp only [Option.some.injEq, Prod.mk.injEq] at h
      obtain ⟨rfl, rfl⟩ := h
      simp [hk]
    · rename_i hk
      have := (mgetI_spec j L (b + 1) i u h).1
      rw [if_neg hk, mput_of_some h hn.2, show i - b = (i - (b + 1)) + 1 by omega, List.set_cons_succ]
theorem mput_of_none {j : Int} {v : Value} : ∀ {L : List (Int × Value)} {b : Nat}, mgetI j L b = none → mput j v L = L ++ [(j, v)]
  | [], b, _ => rfl
  | (a, w) :: L, b, h => by
    unfold mgetI at h
    unfold mput
    split at h
    · cases h
    · rename_i hk
      rw [if_neg hk, mput_of_none h, List.cons_append]

/-- 'm[k] = v'. -/
theorem MapAt.put (h : MapAt W m q L) (ht : P.underlying t = some (.map k e)) (hk : P.underlying k = some (.int q)) (j : Int) (v : Value) :
    ∃ W', (mapUpdate t (.map (some m)) (.int q j) v).run P W = .ok () W' ∧ MapAt W' m q (mput j v L) ∧ W.grownBy W' (some m) := by
  obtain ⟨es, clock, hb, hl, hn⟩ := h
  have hlt := (Array.getElem?_eq_some_iff.1 hb).1
  have hg : (getObj m).run P W = .ok (.map es clock) W := by simp [getObj, Sem.run, hb]
  have hc := run_checkKey_int (P := P) hk false (.int q j) W
  have hf := run_findKey_int (P := P) hk j es.toList hl W
  have hset : ∀ o : Obj, (setObj m o).run P W = .ok () (W.putObj m o) := by
    intro o
    simp [setObj, Sem.run, hb, World.putObj]
  cases hI : mgetI j L 0 with
  | none =>
    rw [hI] at hf
    refine ⟨W.putObj m (.map (es.push { key := .int q j, val := v, born := clock }) (clock + 1)), ?_, ⟨_, _, World.putObj_heap_same hlt, ?_, mput_nodup hn⟩, grownBy_putObj' W m _⟩
    · simp only [mapUpdate, Sem.run_bind, run_underlying ht, Result.andThen_ok, hg, hc, hf, hset]
    · rw [mput_of_none hI]
      simp [hl]
  | some x =>
    obtain ⟨i, u⟩ := x
    rw [hI] at hf
    obtain ⟨_, hi, hL⟩ := mgetI_spec j L 0 i u hI
    simp only [Nat.sub_zero] at hi hL
    have hlen : es.size = L.length := by have := congrArg List.length hl; simpa using this
    have hkey : (es[i]'(by omega)).key = .int q j := by
      have h1 := congrArg (fun l => l[i]?) hl
      simp [show i < es.size by omega, hi, hL] at h1
      exact h1.1
    have hs := run_keyThatStays_int (P := P) (q := q) j W
    refine ⟨W.putObj m (.map (es.modify i fun e => { e with key := .int q j, val := v }) clock), ?_, ⟨_, _, World.putObj_heap_same hlt, ?_, mput_nodup hn⟩, grownBy_putObj' W m _⟩
    · simp only [mapUpdate, Sem.run_bind, run_underlying ht, Result.andThen_ok, hg, hc, hf]
      have hd : (((es[i]?).map (·.key)).getD (.int q j)) = .int q j := by rw [Array.getElem?_eq_getElem (by omega)]; simp [hkey]
      rw [hd, hs]
      simp only [Result.andThen_ok, hset]
    · rw [mput_of_some hI hn, Nat.sub_zero]
      apply List.ext_getElem
      · simp [hlen]
      · intro n h1 h2
        have h0 := congrArg (fun l => l[n]?) hl
        simp only [List.length_map, Array.length_toList, Array.size_modify] at h1
        simp [show n < es.size by omega, show n < L.length by omega] at h0
        simp only [List.getElem_map, Array.getElem_toList, Array.getElem_modify, List.getElem_set]
        by_cases hin : i = n
        · subst hin; simp
        · simp [hin, h0.1, h0.2]
end
end Go.Proofs.Ythmabnigdnbdkaa
