/- Accesses of two cores that don't clash go past each other: the plain law. -/
import Derived.Test.YthmabnigdnbdkaaCellsOn
import Derived.Test.YthmabnigdnbdkaaSteps13
namespace Go.Proofs.Ythmabnigdnbdkaa
open Go.RowKit

/-- A step writes. -/
def awr (s : Stq) : Bool := s.op == 1 || s.op == 2
/-- What a step makes of the cells. -/
def an (s : Stq) (N : List (Int × Int)) : List (Int × Int) := if s.op = 1 then nput s.k s.v N else if s.op = 2 then nput s.k (wrap64 (nget s.k N + s.v)) N else N
/-- What it reads. -/
def ar (s : Stq) (N : List (Int × Int)) : Int := if s.op = 1 then 0 else nget s.k N
/-- What is noted. -/
def atch (core : Int) (s : Stq) : Touch := ⟨core, s.k, awr s⟩
def arun (ls : List Stq) (N : List (Int × Int)) : List (Int × Int) := ls.foldl (fun N s => an s N) N
theorem arun_snoc (ls : List Stq) (s : Stq) (N : List (Int × Int)) : arun (ls ++ [s]) N = an s (arun ls N) := by simp [arun]
def aouts : List Stq → List (Int × Int) → List Int
  | [], _ => []
  | s :: ls, N => ar s N :: aouts ls (an s N)
theorem aouts_length (ls : List Stq) (N : List (Int × Int)) : (aouts ls N).length = ls.length := by
  induction ls generalizing N with
  | nil => rfl
  | cons s ls ih => simp [aouts, ih]
theorem aouts_snoc (ls : List Stq) (s : Stq) (N : List (Int × Int)) : aouts (ls ++ [s]) N = aouts ls N ++ [ar s (arun ls N)] := by
  induction ls generalizing N with
  | nil => rfl
  | cons x ls ih => simp only [List.cons_append, aouts, ih, arun, List.foldl_cons]
theorem take_snoc {α : Type} (l : List α) (i : Nat) (h : i < l.length) : l.take (i + 1) = l.take i ++ [l[i]] := by
  rw [List.take_add_one, List.getElem?_eq_getElem h]; rfl
theorem aouts_get (ls : List Stq) (N : List (Int × Int)) (i : Nat) (h : i < ls.length) : (aouts ls N)[i]? = some (ar ls[i] (arun (ls.take i) N)) := by
  induction ls generalizing N i with
  | nil => exact absurd h (by simp)
  | cons x ls ih =>
    cases i with
    | zero => rfl
    | succ i => simpa [aouts, arun] using ih (an x N) i (by simpa using h)
theorem an_other {s : Stq} {c : Int} (N : List (Int × Int)) (h : s.k = c → awr s = false) : nget c (an s N) = nget c N := by
  unfold an
  by_cases e : s.k = c
  · have := h e
    simp [awr] at this
    rw [if_neg this.1, if_neg this.2]
  · split
    · rw [nget_put, if_neg (fun h => e h.symm)]
    · split
      · rw [nget_put, if_neg (fun h => e h.symm)]
      · rfl
theorem an_cong {s : Stq} {N N' : List (Int × Int)} (h0 : nget s.k N = nget s.k N') {c : Int} (h : nget c N = nget c N') : nget c (an s N) = nget c (an s N') := by
  unfold an
  split
  · rw [nget_put, nget_put]; split <;> first | rfl | exact h
  · split
    · rw [nget_put, nget_put, h0]; split <;> first | rfl | exact h
    · exact h
theorem ar_cong {s : Stq} {N N' : List (Int × Int)} (h0 : nget s.k N = nget s.k N') : ar s N = ar s N' := by
  unfold ar
  split
  · rfl
  · exact h0
theorem arun_other {c : Int} (ls : List Stq) (N : List (Int × Int)) (h : ∀ s ∈ ls, s.k = c → awr s = false) : nget c (arun ls N) = nget c N := by
  induction ls generalizing N with
  | nil => rfl
  | cons s ls ih =>
    rw [show arun (s :: ls) N = arun ls (an s N) from rfl, ih _ (fun t ht => h t (by simp [ht])), an_other _ (h s (by simp))]

/-- No cell of both that one of them writes. -/
def Apt (l m : List Stq) : Prop := ∀ s ∈ l, ∀ t ∈ m, s.k = t.k → awr s = false ∧ awr t = false
/-- The other run, i of l and k of m in. -/
structure AI (l m : List Stq) (i k : Nat) (N : List (Int × Int)) : Prop where
  lft : ∀ s ∈ l, nget s.k N = nget s.k (arun (l.take i) [])
  rgt : ∀ t ∈ m, nget t.k N = nget t.k (arun (m.take k) (arun l []))
theorem AI.start {l m : List Stq} (h : Apt l m) : AI l m 0 0 [] :=
  ⟨fun _ _ => rfl, fun t ht => by
    rw [List.take_zero, show arun [] (arun l []) = arun l [] from rfl, arun_other l [] fun s hs e => (h s hs t ht e).1]⟩
theorem AI.left {l m : List Stq} {i k : Nat} {N : List (Int × Int)} (h : Apt l m) (a : AI l m i k N) (hi : i < l.length) :
    (aouts l [])[i]? = some (ar l[i] N) ∧ AI l m (i + 1) k (an l[i] N) := by
  have hm := List.getElem_mem hi
  refine ⟨?_, fun s hs => ?_, fun t ht => ?_⟩
  · rw [aouts_get _ _ _ hi, ar_cong (a.lft _ hm)]
  · rw [take_snoc _ _ hi, arun_snoc]
    exact an_cong (a.lft _ hm) (a.lft _ hs)
  · rw [an_other _ fun e => (h _ hm t ht e).1]
    exact a.rgt t ht
theorem AI.right {l m : List Stq} {i k : Nat} {N : List (Int × Int)} (h : Apt l m) (a : AI l m i k N) (hk : k < m.length) :
    (aouts m (arun l []))[k]? = some (ar m[k] N) ∧ AI l m i (k + 1) (an m[k] N) := by
  have hm := List.getElem_mem hk
  refine ⟨?_, fun s hs => ?_, fun t ht => ?_⟩
  · rw [aouts_get _ _ _ hk, ar_cong (a.rgt _ hm)]
  · rw [an_other _ fun e => (h s hs _ hm e.symm).2]
    exact a.lft s hs
  · rw [take_snoc _ _ hk, arun_snoc]
    exact an_cong (a.rgt _ hm) (a.rgt _ ht)
theorem AI.done {l m : List Stq} {N : List (Int × Int)} (h : Apt l m) (a : AI l m l.length m.length N) :
    (∀ s ∈ l, nget s.k (arun m (arun l [])) = nget s.k N) ∧ ∀ t ∈ m, nget t.k (arun m (arun l [])) = nget t.k N := by
  refine ⟨fun s hs => ?_, fun t ht => ?_⟩
  · rw [a.lft s hs, List.take_length, arun_other m _ fun t ht e => (h s hs t ht e.symm).2]
  · rw [a.rgt t ht, List.take_length]

/-! Where Clash answers nothing. -/
theorem agg1_length (a b : Int) (S : List Touch) (M : List (Int × Cnt)) : (agg1 a b S M).length ≤ M.length + S.length := by
  induction S generalizing M with
  | nil => simp [agg1]
  | cons x S ih =>
    have h1 := ih (add1 x a b M)
    have h2 := cput_length x.cell ⟨(cget x.cell M).f + a, (cget x.cell M).s + b, (cget x.cell M).w + (if x.write then 1 else 0)⟩ M
    simp only [agg1, List.foldl_cons, List.length_cons] at h1 ⊢
    unfold add1 at h1 ⊢
    omega
theorem ofc_length {a b : Int} (hab : a ≠ b) (SW : List TW) : (ofc a SW).length + (ofc b SW).length ≤ SW.length := by
  induction SW with
  | nil => simp [ofc]
  | cons t SW ih =>
    unfold ofc at ih ⊢
    by_cases h1 : t.1.core = a
    · have h2 : ¬ t.1.core = b := fun e => hab (h1.symm.trans e)
      simp [h1, hab]; omega
    · by_cases h2 : t.1.core = b
      · have h3 : ¬ b = a := fun e => hab e.symm
        simp [h2, h3]; omega
      · simp [h1, h2]; omega
theorem cagg_length {a b : Int} (hab : a ≠ b) (SW : List TW) : (cagg a b SW).length ≤ SW.length := by
  have h1 := agg1_length 1 0 ((ofc a SW).map Subtype.val) []
  have h2 := agg1_length 0 1 ((ofc b SW).map Subtype.val) (agg1 1 0 ((ofc a SW).map Subtype.val) [])
  have h3 := ofc_length hab SW
  simp only [List.length_map, List.length_nil, Nat.zero_add] at h1 h2
  unfold cagg
  omega
theorem agg1_ge {a b : Int} (ha : 0 ≤ a) (hb : 0 ≤ b) (c : Int) (S : List Touch) (M : List (Int × Cnt)) : (cget c M).f ≤ (cget c (agg1 a b S M)).f ∧ (cget c M).s ≤ (cget c (agg1 a b S M)).s ∧ (cget c M).w ≤ (cget c (agg1 a b S M)).w := by
  induction S generalizing M with
  | nil => simp [agg1]
  | cons x S ih =>
    have h1 := ih (add1 x a b M)
    simp only [agg1, List.foldl_cons] at h1 ⊢
    have h2 : (cget c M).f ≤ (cget c (add1 x a b M)).f ∧ (cget c M).s ≤ (cget c (add1 x a b M)).s ∧ (cget c M).w ≤ (cget c (add1 x a b M)).w := by
      unfold add1
      rw [cget_put]
      split
      · rename_i e
        subst e
        dsimp only
        split <;> omega
      · omega
    omega
theorem agg1_in {a b : Int} (ha : 0 ≤ a) (hb : 0 ≤ b) (c : Int) (S : List Touch) (M : List (Int × Cnt)) (x : Touch) (hx : x ∈ S) (hc : x.cell = c) :
    (cget c M).f + a ≤ (cget c (agg1 a b S M)).f ∧ (cget c M).s + b ≤ (cget c (agg1 a b S M)).s ∧ (cget c M).w + (if x.write then 1 else 0) ≤ (cget c (agg1 a b S M)).w := by
  induction S generalizing M with
  | nil => exact absurd hx (by simp)
  | cons y S ih =>
    rcases List.mem_cons.1 hx with rfl | hx
    · have h1 := agg1_ge ha hb c S (add1 x a b M)
      simp only [agg1, List.foldl_cons] at h1 ⊢
      have h2 : cget c (add1 x a b M) = ⟨(cget c M).f + a, (cget c M).s + b, (cget c M).w + (if x.write then 1 else 0)⟩ := by
        unfold add1
        rw [cget_put, if_pos hc.symm, hc]
      rw [h2] at h1
      exact h1
    · have h1 := ih (add1 y a b M) hx
      have h2 := agg1_ge ha hb c [y] M
      simp only [agg1, List.foldl_cons, List.foldl_nil] at h1 h2 ⊢
      omega
theorem cget_key {c : Int} {M : List (Int × Cnt)} (h : 0 < (cget c M).f) : c ∈ M.map Prod.fst := by
  induction M with
  | nil => simp [cget] at h
  | cons x M ih =>
    obtain ⟨a, u⟩ := x
    simp only [List.map_cons, List.mem_cons]
    by_cases e : c = a
    · exact .inl e
    · simp only [cget, if_neg e] at h
      exact .inr (ih h)
theorem clash_has {a b c : Int} (SW : List TW) (x y : TW) (hx : x ∈ SW) (hy : y ∈ SW) (cx : x.1.core = a) (cy : y.1.core = b) (ex : x.1.cell = c) (ey : y.1.cell = c) (hw : x.1.write = true ∨ y.1.write = true) :
    c ∈ clashes (cagg a b SW) (((cagg a b SW).map Prod.fst).mergeSort (fun x y => decide (x ≤ y))) := by
  have hx' : x.1 ∈ (ofc a SW).map Subtype.val := List.mem_map.2 ⟨x, List.mem_filter.2 ⟨hx, by simp [cx]⟩, rfl⟩
  have hy' : y.1 ∈ (ofc b SW).map Subtype.val := List.mem_map.2 ⟨y, List.mem_filter.2 ⟨hy, by simp [cy]⟩, rfl⟩
  have h1 := agg1_in (a := 1) (b := 0) (by omega) (by omega) c _ [] x.1 hx' ex
  have h2 := agg1_in (a := 0) (b := 1) (by omega) (by omega) c _ (agg1 1 0 ((ofc a SW).map Subtype.val) []) y.1 hy' ey
  have h0 : cget c [] = ⟨0, 0, 0⟩ := rfl
  rw [h0] at h1
  dsimp only at h1
  have hf : 0 < (cget c (cagg a b SW)).f := by unfold cagg; omega
  have hs : 0 < (cget c (cagg a b SW)).s := by unfold cagg; omega
  have hww : 0 < (cget c (cagg a b SW)).w := by
    unfold cagg
    rcases hw with hw | hw
    · rw [hw] at h1; simp only [if_true] at h1
      have : (0 : Int) ≤ (if y.1.write then 1 else 0) := by split <;> omega
      omega
    · rw [hw] at h2; simp only [if_true] at h2
      have : (0 : Int) ≤ (if x.1.write then 1 else 0) := by split <;> omega
      omega
  unfold clashes
  rw [List.mem_filter]
  exact ⟨(List.mem_mergeSort).2 (cget_key hf), by simp [hf, hs, hww]⟩
/-- What is noted of both. -/
def anoted (l m : List Stq) : List Touch := l.map (atch 0) ++ m.map (atch 1)
theorem anoted_sw {l m : List Stq} (hl : ∀ s ∈ l, (Lit.int .u64 s.k).wf = true) (hm : ∀ s ∈ m, (Lit.int .u64 s.k).wf = true) : ∃ SW : List TW, SW.map Subtype.val = anoted l m := by
  refine ⟨(anoted l m).attachWith (fun t => (Lit.int .u64 t.cell).wf = true) (fun t ht => ?_), by simp⟩
  rcases List.mem_append.1 ht with ht | ht
  · obtain ⟨s, hs, rfl⟩ := List.mem_map.1 ht
    exact hl s hs
  · obtain ⟨s, hs, rfl⟩ := List.mem_map.1 ht
    exact hm s hs
theorem apt_of {l m : List Stq} {SW : List TW} (h : SW.map Subtype.val = anoted l m) (hc : clashes (cagg 0 1 SW) (((cagg 0 1 SW).map Prod.fst).mergeSort (fun x y => decide (x ≤ y))) = []) : Apt l m := by
  intro s hs t ht e
  obtain ⟨x, hx, ex⟩ := List.mem_map.1 (h ▸ List.mem_append_left _ (List.mem_map.2 ⟨s, hs, rfl⟩) : atch 0 s ∈ SW.map Subtype.val)
  obtain ⟨y, hy, ey⟩ := List.mem_map.1 (h ▸ List.mem_append_right _ (List.mem_map.2 ⟨t, ht, rfl⟩) : atch 1 t ∈ SW.map Subtype.val)
  by_cases hw : awr s = true ∨ awr t = true
  · have := clash_has (c := s.k) (a := 0) (b := 1) SW x y hx hy (by rw [ex]; rfl) (by rw [ey]; rfl) (by rw [ex]; rfl) (by rw [ey]; exact e.symm) (by rw [ex, ey]; exact hw)
    rw [hc] at this
    exact absurd this (by simp)
  · rw [not_or] at hw
    simpa using hw
end Go.Proofs.Ythmabnigdnbdkaa
