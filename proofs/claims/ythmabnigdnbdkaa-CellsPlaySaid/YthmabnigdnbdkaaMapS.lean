/- Maps with keys of an integer kind as lists of pairs, with their stamps: what may be ranged over; a key is struck. -/
import Derived.Test.YthmabnigdnbdkaaMap
import Derived.Sort.MapsRangeIn
import Derived.Sort.KeysCollected
namespace Go.Proofs.Ythmabnigdnbdkaa
open Go.RowKit Go.Instr Go.Maps
open Go.MapKept (Stamped stamped_push stamped_modify stamped_erase stamped_empty)

/-- A map's block: pairs, each key once, with stamps. -/
def MapS (W : World) (m : Nat) (q : IntKind) (L : List (Int × Value)) : Prop :=
  ∃ es clock, W.heap[m]? = some (.map es clock) ∧ es.toList.map (fun e => (e.key, e.val)) = L.map (fun p => (Value.int q p.1, p.2)) ∧ (L.map Prod.fst).Nodup ∧ Stamped es clock ∧ ∀ p ∈ L, (Lit.int q p.1).wf = true

theorem MapS.mapAt {W : World} {m : Nat} {q : IntKind} {L : List (Int × Value)} (h : MapS W m q L) : MapAt W m q L := by
  obtain ⟨es, clock, h1, h2, h3, _⟩ := h
  exact ⟨es, clock, h1, h2, h3⟩
theorem MapS.of_block {W W' : World} {m : Nat} {q : IntKind} {L : List (Int × Value)} (h : MapS W m q L) (hb : W'.heap[m]? = W.heap[m]?) : MapS W' m q L := by
  obtain ⟨es, clock, h1, h2⟩ := h
  exact ⟨es, clock, hb.trans h1, h2⟩
theorem MapS.lt {W : World} {m : Nat} {q : IntKind} {L : List (Int × Value)} (h : MapS W m q L) : m < W.heap.size := h.mapAt.lt
theorem MapS.nodup {W : World} {m : Nat} {q : IntKind} {L : List (Int × Value)} (h : MapS W m q L) : (L.map Prod.fst).Nodup := by
  obtain ⟨es, clock, _, _, h3, _⟩ := h
  exact h3
theorem MapS.wf {W : World} {m : Nat} {q : IntKind} {L : List (Int × Value)} (h : MapS W m q L) : ∀ p ∈ L, (Lit.int q p.1).wf = true := by
  obtain ⟨es, clock, _, _, _, _, h5⟩ := h
  exact h5
theorem MapS.new (W : World) (q : IntKind) : MapS (W.alloc (.map #[] 0)) W.heap.size q [] := ⟨#[], 0, hp_new _ _ rfl, rfl, by simp, stamped_empty 0, by simp⟩

theorem mput_mem {k : Int} {v : Value} {l : List (Int × Value)} : ∀ p ∈ mput k v l, p.1 = k ∨ ∃ p' ∈ l, p'.1 = p.1 := by
  intro p hp
  have : p.1 ∈ (mput k v l).map Prod.fst := List.mem_map.2 ⟨p, hp, rfl⟩
  rw [mput_keys] at this
  split at this
  · obtain ⟨p', h1, h2⟩ := List.mem_map.1 this
    exact .inr ⟨p', h1, h2⟩
  · rcases List.mem_append.1 this with h | h
    · obtain ⟨p', h1, h2⟩ := List.mem_map.1 h
      exact .inr ⟨p', h1, h2⟩
    · exact .inl (by simpa using h)
theorem mdel_mem {k : Int} {l : List (Int × Value)} : ∀ p ∈ mdel k l, p ∈ l := by
  induction l with
  | nil => intro p h; simp [mdel] at h
  | cons x l ih =>
    obtain ⟨a, u⟩ := x
    intro p hp
    unfold mdel at hp
    split at hp
    · exact List.mem_cons_of_mem _ hp
    · rcases List.mem_cons.1 hp with rfl | hp
      · exact List.mem_cons_self
      · exact List.mem_cons_of_mem _ (ih p hp)
theorem mdel_nodup {k : Int} {l : List (Int × Value)} (h : (l.map Prod.fst).Nodup) : ((mdel k l).map Prod.fst).Nodup := by
  rw [mdel_keys h]
  exact h.filter _
theorem mdel_of_some {j : Int} {i : Nat} {u : Value} : ∀ {L : List (Int × Value)} {b : Nat}, mgetI j L b = some (i, u) → mdel j L = L.eraseIdx (i - b)
  | [], b, h => by simp [mgetI] at h
  | (a, w) :: L, b, h => by
    unfold mgetI at h
    unfold mdel
    split at h
    · rename_i hk
      simp only [Option.some.injEq, Prod.mk.injEq] at h
      obtain ⟨rfl, rfl⟩ := h
      simp [hk]
    · rename_i hk
      have := (mgetI_spec j L (b + 1) i u h).1
      rw [if_neg hk, mdel_of_some h, show i - b = (i - (b + 1)) + 1 by omega, List.eraseIdx_cons_succ]
theorem mdel_of_none {j : Int} : ∀ {L : List (Int × Value)} {b : Nat}, mgetI j L b = none → mdel j L = L
  | [], b, _ => rfl
  | (a, w) :: L, b, h => by
    unfold mgetI at h
    unfold mdel
    split at h
    · cases h
    · rename_i hk
      rw [if_neg hk, mdel_of_none h]

section
variable {P : Program} {t k e : TypeId} {q : IntKind} {W : World} {m : Nat} {L : List (Int × Value)}

theorem keys_of (q : IntKind) {es : List MapEntry} {L : List (Int × Value)} (h : es.map (fun e => (e.key, e.val)) = L.map (fun p => (Value.int q p.1, p.2))) : es.map (·.key) = L.map (fun p => Value.int q p.1) := by
  have := congrArg (List.map Prod.fst) h
  rw [List.map_map, List.map_map] at this
  exact this

/-- 'm[k] = v'. -/
theorem MapS.put (h : MapS W m q L) (ht : P.underlying t = some (.map k e)) (hk : P.underlying k = some (.int q)) (j : Int) (hj : (Lit.int q j).wf = true) (v : Value) :
    ∃ W', (mapUpdate t (.map (some m)) (.int q j) v).run P W = .ok () W' ∧ MapS W' m q (mput j v L) ∧ W.grownBy W' (some m) := by
  obtain ⟨es, clock, hb, hl, hn, hst, hw⟩ := h
  have hlt := (Array.getElem?_eq_some_iff.1 hb).1
  have hg : (getObj m).run P W = .ok (.map es clock) W := by simp [getObj, Sem.run, hb]
  have hc := run_checkKey_int (P := P) hk false (.int q j) W
  have hf := run_findKey_int (P := P) hk j es.toList hl W
  have hset : ∀ o : Obj, (setObj m o).run P W = .ok () (W.putObj m o) := by
    intro o
    simp [setObj, Sem.run, hb, World.putObj]
  have hw' : ∀ p ∈ mput j v L, (Lit.int q p.1).wf = true := by
    intro p hp
    rcases mput_mem p hp with e | ⟨p', h1, h2⟩
    · rw [e]; exact hj
    · rw [← h2]; exact hw p' h1
  have hks := keys_of q hl
  cases hI : mgetI j L 0 with
  | none =>
    rw [hI] at hf
    refine ⟨W.putObj m (.map (es.push { key := .int q j, val := v, born := clock }) (clock + 1)), ?_, ⟨_, _, World.putObj_heap_same hlt, ?_, mput_nodup hn, stamped_push hst ?_, hw'⟩, grownBy_putObj' W m _⟩
    · simp only [mapUpdate, Sem.run_bind, run_underlying ht, Result.andThen_ok, hg, hc, hf, hset]
    · rw [mput_of_none hI]
      simp [hl]
    · intro x hx e
      have h1 : x.key ∈ es.toList.map (·.key) := List.mem_map.2 ⟨x, hx, rfl⟩
      rw [hks, e] at h1
      obtain ⟨p, hp, he⟩ := List.mem_map.1 h1
      simp only [Value.int.injEq, true_and] at he
      have hm := mgetI_mget j L 0
      rw [hI] at hm
      exact mget_none.1 hm.symm (List.mem_map.2 ⟨p, hp, he⟩)
  | some x =>
    obtain ⟨i, u⟩ := x
    rw [hI] at hf
    obtain ⟨_, hi, hL⟩ := mgetI_spec j L 0 i u hI
    simp only [Nat.sub_zero] at hi hL
    have hlen : es.size = L.length := by have := congrArg List.length hl; simpa using this
    have hkey : (es[i]'(by omega)).key = .int q j := by
      have h1 := congrArg (fun l => l[i]?) hl
      simp [show i < es.size by omega, hi, hL] at h1
      exact h1.1
    have hs := run_keyThatStays_int (P := P) (q := q) j W
    refine ⟨W.putObj m (.map (es.modify i fun e => { e with key := .int q j, val := v }) clock), ?_, ⟨_, _, World.putObj_heap_same hlt, ?_, mput_nodup hn, stamped_modify hst i _ (fun _ _ => rfl) ?_, hw'⟩, grownBy_putObj' W m _⟩
    · simp only [mapUpdate, Sem.run_bind, run_underlying ht, Result.andThen_ok, hg, hc, hf]
      have hd : (((es[i]?).map (·.key)).getD (.int q j)) = .int q j := by rw [Array.getElem?_eq_getElem (by omega)]; simp [hkey]
      rw [hd, hs]
      simp only [Result.andThen_ok, hset]
    · rw [mput_of_some hI hn, Nat.sub_zero]
      apply List.ext_getElem
      · simp [hlen]
      · intro n h1 h2
        have h0 := congrArg (fun l => l[n]?) hl
        simp only [List.length_map, Array.length_toList, Array.size_modify] at h1
        simp [show n < es.size by omega, show n < L.length by omega] at h0
        simp only [List.getElem_map, Array.getElem_toList, Array.getElem_modify, List.getElem_set]
        by_cases hin : i = n
        · subst hin; simp
        · simp [hin, h0.1, h0.2]
    · intro x _ hx
      rw [Array.getElem?_eq_getElem (by omega)] at hx
      cases hx
      exact hkey.symm
/-- 'delete(m, k)'. -/
theorem MapS.del (h : MapS W m q L) (ht : P.underlying t = some (.map k e)) (hk : P.underlying k = some (.int q)) (j : Int) (ts : Array TypeId) (hts : ts[0]? = some t) (ty : TypeId) :
    ∃ W', (Builtin.delete_ ts ty #[.map (some m), .int q j]).run P W = .ok (.tuple #[]) W' ∧ MapS W' m q (mdel j L) ∧ W.grownBy W' (some m) := by
  obtain ⟨es, clock, hb, hl, hn, hst, hw⟩ := h
  have hlt := (Array.getElem?_eq_some_iff.1 hb).1
  have hg : (getObj m).run P W = .ok (.map es clock) W := by simp [getObj, Sem.run, hb]
  have hc := run_checkKey_int (P := P) hk es.isEmpty (.int q j) W
  have hf := run_findKey_int (P := P) hk j es.toList hl W
  have hset : ∀ o : Obj, (setObj m o).run P W = .ok () (W.putObj m o) := by
    intro o
    simp [setObj, Sem.run, hb, World.putObj]
  cases hI : mgetI j L 0 with
  | none =>
    rw [hI] at hf
    refine ⟨W.putObj m (.map es clock), ?_, ⟨_, _, World.putObj_heap_same hlt, ?_, mdel_nodup hn, hst, fun p hp => hw p (mdel_mem p hp)⟩, grownBy_putObj' W m _⟩
    · simp [Builtin.delete_, hts, Sem.run_bind, run_underlying ht, Result.andThen_ok, hg, hc, hf, hset]
    · rw [mdel_of_none hI]; exact hl
  | some x =>
    obtain ⟨i, u⟩ := x
    rw [hI] at hf
    obtain ⟨_, hi, hL⟩ := mgetI_spec j L 0 i u hI
    simp only [Nat.sub_zero] at hi hL
    have hlen : es.size = L.length := by have := congrArg List.length hl; simpa using this
    refine ⟨W.putObj m (.map (es.eraseIdxIfInBounds i) clock), ?_, ⟨_, _, World.putObj_heap_same hlt, ?_, mdel_nodup hn, stamped_erase hst i, fun p hp => hw p (mdel_mem p hp)⟩, grownBy_putObj' W m _⟩
    · simp [Builtin.delete_, hts, Sem.run_bind, run_underlying ht, Result.andThen_ok, hg, hc, hf, hset]
    · rw [mdel_of_some hI, Nat.sub_zero]
      unfold Array.eraseIdxIfInBounds
      rw [dif_pos (by omega)]
      simp only [Array.toList_eraseIdx]
      have e1 : ∀ {α β : Type} (f : α → β) (l : List α) (i : Nat), (l.eraseIdx i).map f = (l.map f).eraseIdx i := by
        intro α β f l
        induction l with
        | nil => intro i; rfl
        | cons a l ih =>
          intro i
          cases i with
          | zero => rfl
          | succ i => simp [ih]
      rw [e1, e1, hl]
/-- 'len(m)'. -/
theorem MapS.len (h : MapS W m q L) (ht : P.underlying t = some (.map k e)) (ty : TypeId) : (Builtin.len_ #[t] ty #[.map (some m)]).run P W = .ok (.int .i64 (L.length : Int)) W := by
  obtain ⟨es, clock, hb, hl, _⟩ := h
  have hg : (getObj m).run P W = .ok (.map es clock) W := by simp [getObj, Sem.run, hb]
  have hlen : es.size = L.length := by have := congrArg List.length hl; simpa using this
  simp [Builtin.len_, run_underlying ht, hg, hlen, goInt, Result.andThen]

/-- Whatever stands behind a key: for a range that looks at keys alone. -/
def anyR : Value → Option (DataW Unit × List MemPlace) := fun _ => some (.nil, [])
/-- What may be ranged over. -/
theorem MapS.owns (h : MapS W m q L) (hk : P.underlying k = some (.int q)) (hL : L.length ≤ maxLen) :
    ∃ D, W.ownsMap P k anyR m L.length D ∧ ∀ x, has D (.int q x) = true ↔ x ∈ L.map Prod.fst := by
  obtain ⟨es, clock, hb, hl, hn, hst, hw⟩ := h
  have hlen : es.size = L.length := by have := congrArg List.length hl; simpa using this
  have hks := keys_of q hl
  have hkey : ∀ x ∈ es.toList, ∃ a, x.key = .int q a ∧ (Lit.int q a).wf = true := by
    intro x hx
    have h1 : x.key ∈ es.toList.map (·.key) := List.mem_map.2 ⟨x, hx, rfl⟩
    rw [hks] at h1
    obtain ⟨p, hp, he⟩ := List.mem_map.1 h1
    exact ⟨p.1, he.symm, hw p hp⟩
  have hrd : ∀ x ∈ es.toList, ∀ a, x.key = .int q a → (Lit.int q a).wf = true → WideElems.rd P k anyR x = some (.int q a, .nil) := by
    intro x hx a ha hwa
    simp [WideElems.rd, ha, keyOf_int_mk hk hwa, anyR]
  refine ⟨_, ⟨es, clock, hb, ⟨by omega, hst, fun x hx => ?_⟩, by omega, rfl⟩, fun x => ?_⟩
  · obtain ⟨a, ha, hwa⟩ := hkey x hx
    exact ⟨_, hrd x hx a ha hwa⟩
  · rw [has_eq, List.any_eq_true]
    constructor
    · rintro ⟨p, hp, hs⟩
      rw [mem_sorted] at hp
      obtain ⟨y, hy, rfl⟩ := List.mem_map.1 hp
      obtain ⟨a, ha, hwa⟩ := hkey y hy
      rw [WideElems.rg_of (hrd y hy a ha hwa)] at hs
      have hax : a = x := by simpa [Lit.sameKey] using hs
      have h1 : y.key ∈ es.toList.map (·.key) := List.mem_map.2 ⟨y, hy, rfl⟩
      rw [hks, ha, hax] at h1
      obtain ⟨p, hp, he⟩ := List.mem_map.1 h1
      simp only [Value.int.injEq, true_and] at he
      exact List.mem_map.2 ⟨p, hp, he⟩
    · intro hx
      obtain ⟨p, hp, he⟩ := List.mem_map.1 hx
      have h1 : Value.int q p.1 ∈ L.map (fun p => Value.int q p.1) := List.mem_map.2 ⟨p, hp, rfl⟩
      rw [← hks] at h1
      obtain ⟨y, hy, hy2⟩ := List.mem_map.1 h1
      refine ⟨WideElems.rg P k anyR y, mem_sorted.2 (List.mem_map.2 ⟨y, hy, rfl⟩), ?_⟩
      rw [WideElems.rg_of (hrd y hy p.1 hy2 (hw p hp))]
      simp [Lit.sameKey, he]
end

/-- The keys that came so far. -/
def Came (q : IntKind) (D0 : DataW Unit) (left : Lit → Bool) (ss : List Int) : Prop := ss.Nodup ∧ ∀ x, x ∈ ss ↔ (has D0 (.int q x) = true ∧ left (.int q x) = false)
theorem Came.start (q : IntKind) (D0 : DataW Unit) : Came q D0 (has D0) [] := ⟨List.nodup_nil, fun x => by cases has D0 (.int q x) <;> simp⟩
theorem Came.step {q : IntKind} {D0 : DataW Unit} {left : Lit → Bool} {ss : List Int} (h : Came q D0 left ss) {x : Int} {y : DataW Unit} (hlk : left (.int q x) = true) (hat : ∀ zd, D0.atKey (.int q x) zd = y) : Came q D0 (fun z => left z && !z.sameKey (.int q x)) (ss ++ [x]) := by
  have hhas : has D0 (.int q x) = true := has_true_of_atKey hat
  have hnew : x ∉ ss := fun hx => by have := ((h.2 x).1 hx).2; rw [hlk] at this; cases this
  refine ⟨List.nodup_append.2 ⟨h.1, by simp, fun a ha b hb => by simp at hb; subst hb; exact fun e => hnew (e ▸ ha)⟩, fun y => ?_⟩
  by_cases hy : y = x
  · subst hy; simp [hhas, Lit.sameKey]
  · simp [h.2 y, hy, Lit.sameKey]
theorem Came.len {q : IntKind} {D0 : DataW Unit} {left : Lit → Bool} {ss K : List Int} (h : Came q D0 left ss) (hD : ∀ x, has D0 (.int q x) = true ↔ x ∈ K) : ss.length ≤ K.length := by
  have hsub : ∀ (a b : List Int), a.Nodup → (∀ x ∈ a, x ∈ b) → a.length ≤ b.length := by
    intro a
    induction a with
    | nil => intro b _ _; simp
    | cons x a ih =>
      intro b hn hs
      rw [List.nodup_cons] at hn
      have hxb : x ∈ b := hs x (by simp)
      have := ih (b.erase x) hn.2 (fun y hy => (List.mem_erase_of_ne (by rintro rfl; exact hn.1 hy)).2 (hs y (by simp [hy])))
      rw [List.length_erase_of_mem hxb] at this
      have : 0 < b.length := List.length_pos_of_mem hxb
      simp only [List.length_cons]
      omega
  exact hsub ss K h.1 fun x hx => (hD x).1 ((h.2 x).1 hx).1
theorem Came.perm {q : IntKind} {D0 : DataW Unit} {left : Lit → Bool} {ss K : List Int} (h : Came q D0 left ss) (hK : K.Nodup) (hD : ∀ x, has D0 (.int q x) = true ↔ x ∈ K) (hl : ∀ kl, left kl = false) : ss.Perm K := by
  refine (List.perm_ext_iff_of_nodup h.1 hK).2 fun x => ?_
  rw [h.2 x, hl, hD x]
  simp
theorem keyOf_q {P : Program} {k : TypeId} {q : IntKind} (hk : P.underlying k = some (.int q)) {key : Value} {kl : Lit} (h : keyOf P k key = some kl) : ∃ x : Int, key = .int q x ∧ kl = .int q x ∧ (Lit.int q x).wf = true := by
  cases key <;> simp [keyOf, hk, mapKey] at h
  rename_i q' a
  obtain ⟨⟨rfl, hw⟩, rfl⟩ := h
  exact ⟨a, rfl, rfl, hw⟩
end Go.Proofs.Ythmabnigdnbdkaa
