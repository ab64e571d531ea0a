/- Plain laws of pages' blocks: what is set, what is cut off and what is left. -/
import Derived.Test.YtjjphcnoegaimaaGreatBm7
import Derived.Test.YtjjphcnoegaimaaGreatGU
namespace Go.Proofs.YtjjphcnoegaimaaGreat
open Go.RowKit
set_option linter.unusedSimpArgs false
set_option maxRecDepth 20000

theorem nz_rep (n : Nat) : nz (List.replicate n 0) = [] := by simp [nz]
theorem nz_split (l : List Int) (p : Nat) : nz l = nz (l.take p) ++ nz (l.drop p) := by rw [← nz_app, List.take_append_drop]
/-- A row with noughts from a place on. -/
def cutL (l : List Int) (p : Nat) : List Int := l.take p ++ List.replicate (l.length - p) 0
theorem cutL_length (l : List Int) (p : Nat) : (cutL l p).length = l.length := by simp [cutL]; omega
theorem nz_cutL (l : List Int) (p : Nat) : nz (cutL l p) = nz (l.take p) := by rw [cutL, nz_app, nz_rep, List.append_nil]
theorem cutL_drop (l : List Int) {p q : Nat} (h : p ≤ q) : nz ((cutL l p).drop q) = [] := by
  rw [cutL, List.drop_append, List.drop_eq_nil_of_le (by rw [List.length_take]; omega), List.nil_append, List.drop_replicate, nz_rep]
theorem cutL_get (l : List Int) (p k : Nat) : (cutL l p).getD k 0 = if k < p then l.getD k 0 else 0 := by
  rw [cutL]
  simp only [List.getD_eq_getElem?_getD, List.getElem?_append, List.length_take, List.getElem?_take, List.getElem?_replicate]
  by_cases h : k < p
  · rw [if_pos h]
    by_cases h2 : k < l.length
    · rw [if_pos (by omega), if_pos h]
    · rw [if_neg (by omega), if_neg (by omega), if_pos h, List.getElem?_eq_none (by omega)]
  · rw [if_neg (by omega), if_neg h]
    split <;> rfl
theorem cutL_rep (n p : Nat) : cutL (List.replicate n 0) p = List.replicate n 0 := by
  rw [cutL, List.take_replicate, List.length_replicate, List.replicate_append_replicate]
  congr 1
  omega
theorem cutL_same (l : List Int) (p : Nat) (h : nz (l.drop p) = []) : cutL l p = l := by
  have hd : l.drop p = List.replicate (l.length - p) 0 := by
    rw [List.eq_replicate_iff]
    refine ⟨List.length_drop, fun z hz => ?_⟩
    rw [nz, List.filter_eq_nil_iff] at h
    have := h z hz
    simpa using this
  rw [cutL, ← hd, List.take_append_drop]

/-- An inode of which pages are cut off. -/
def Ino.ds4 (x : Ino) : List Int := [x.d0, x.d1, x.d2, x.d3]
def Ino.cutd (x : Ino) (p : Nat) : Ino := { x with d0 := if 0 < p then x.d0 else 0, d1 := if 1 < p then x.d1 else 0, d2 := if 2 < p then x.d2 else 0, d3 := if 3 < p then x.d3 else 0 }
def Ino.cut (x : Ino) (p : Nat) : Ino := { x.cutd p with n := if x.n ≠ 0 ∧ p ≤ 4 then 0 else x.n }
theorem Ino.cut_ds (x : Ino) (p : Nat) : (x.cut p).ds4 = cutL x.ds4 p := by
  have : p = 0 ∨ p = 1 ∨ p = 2 ∨ p = 3 ∨ 4 ≤ p := by omega
  rcases this with rfl | rfl | rfl | rfl | h
  · rfl
  · rfl
  · rfl
  · rfl
  · have h0 : 0 < p := by omega
    have h1 : 1 < p := by omega
    have h2 : 2 < p := by omega
    have h3 : 3 < p := by omega
    rw [cutL, List.take_of_length_le (by simpa [Ino.ds4] using h)]
    simp [Ino.ds4, Ino.cut, Ino.cutd, h0, h1, h2, h3]
    omega
theorem Ino.cut_d (x : Ino) (p k : Nat) (hk : k < 4) : (x.cut p).d k = if k < p then x.d k else 0 := by
  have : k = 0 ∨ k = 1 ∨ k = 2 ∨ k = 3 := by omega
  rcases this with rfl | rfl | rfl | rfl <;> rfl
theorem Ino.cut_n (x : Ino) (p : Nat) : (x.cut p).n = if x.n ≠ 0 ∧ p ≤ 4 then 0 else x.n := rfl
theorem Ino.cut_cut (x : Ino) {p q : Nat} (h : p ≤ q) : (x.cut p).cut q = x.cut p := by
  have e : ∀ (k : Nat) (z : Int), (if k < q then (if k < p then z else 0) else 0) = if k < p then z else 0 := fun k z => by
    by_cases h1 : k < p
    · rw [if_pos h1, if_pos (by omega)]
    · rw [if_neg h1]; split <;> rfl
  have en : (if (x.cut p).n ≠ 0 ∧ q ≤ 4 then 0 else (x.cut p).n) = (x.cut p).n := by
    rw [Ino.cut_n]
    by_cases h1 : x.n ≠ 0 ∧ p ≤ 4
    · rw [if_pos h1]; split <;> rfl
    · rw [if_neg h1]
      by_cases h2 : x.n ≠ 0 ∧ q ≤ 4
      · exact absurd ⟨h2.1, by omega⟩ h1
      · rw [if_neg h2]
  rw [Ino.cut, en]
  simp only [Ino.cut, Ino.cutd, e]
theorem Ino.cut_all (x : Ino) {p : Nat} (h : 4 < p) : x.cut p = x := by
  have h0 : 0 < p := by omega
  have h1 : 1 < p := by omega
  have h2 : 2 < p := by omega
  have h3 : 3 < p := by omega
  have h4 : ¬ (x.n ≠ 0 ∧ p ≤ 4) := by omega
  simp only [Ino.cut, Ino.cutd, if_pos h0, if_pos h1, if_pos h2, if_pos h3, if_neg h4]
theorem Ino.cut_wf {x : Ino} (h : x.Wf) (p : Nat) : (x.cut p).Wf := by
  have e : ∀ (c : Prop) [Decidable c] (z : Int), 0 ≤ z ∧ z < 65536 → 0 ≤ (if c then z else 0) ∧ (if c then z else 0) < 65536 := fun c _ z hz => by
    split
    · exact hz
    · decide
  refine ⟨h.k, h.l, h.s, e _ _ h.d0, e _ _ h.d1, e _ _ h.d2, e _ _ h.d3, ?_⟩
  rw [Ino.cut_n]
  split
  · decide
  · exact h.n
theorem Ino.setd_wf {x : Ino} (h : x.Wf) (k : Nat) {v : Int} (h0 : 0 ≤ v) (h1 : v < 65536) : (x.setd k v).Wf := by
  unfold Ino.setd
  split
  · exact ⟨h.k, h.l, h.s, ⟨h0, h1⟩, h.d1, h.d2, h.d3, h.n⟩
  split
  · exact ⟨h.k, h.l, h.s, h.d0, ⟨h0, h1⟩, h.d2, h.d3, h.n⟩
  split
  · exact ⟨h.k, h.l, h.s, h.d0, h.d1, ⟨h0, h1⟩, h.d3, h.n⟩
  · exact ⟨h.k, h.l, h.s, h.d0, h.d1, h.d2, ⟨h0, h1⟩, h.n⟩
theorem Ino.setd_n (x : Ino) (k : Nat) (v : Int) : (x.setd k v).n = x.n := by
  unfold Ino.setd
  split
  · rfl
  split
  · rfl
  split <;> rfl
theorem Ino.setd_d (x : Ino) {k p : Nat} (hk : k < 4) (hp : p < 4) (v : Int) : (x.setd k v).d p = if p = k then v else x.d p := by
  have h1 : k = 0 ∨ k = 1 ∨ k = 2 ∨ k = 3 := by omega
  have h2 : p = 0 ∨ p = 1 ∨ p = 2 ∨ p = 3 := by omega
  rcases h1 with rfl | rfl | rfl | rfl <;> rcases h2 with rfl | rfl | rfl | rfl <;> rfl

/-- What is cut off; what was written behind. -/
def cutF (x : Ino) (M : Wl) (bs p : Nat) : List Int := nz (x.ds4.drop p) ++ nz ((toldL x M bs).drop (p - 4)) ++ (if x.n ≠ 0 ∧ p ≤ 4 then [x.n] else [])
def cutM (x : Ino) (M : Wl) (bs p : Nat) : Wl := if x.n ≠ 0 ∧ p ≤ 4 then M else if nz ((toldL x M bs).drop (p - 4)) = [] then M else pins bs (tellB (cutL (toldL x M bs) (p - 4))) M

theorem bs_list (l : List UInt8) : (bs l).data.toList = l := by simp [bs]
theorem rd_pins (M : Wl) (b : Nat) (c : ByteArray) : rd (pins b c M) b = c := by rw [rd, pins_get, if_pos rfl]; rfl
theorem toldL_pins (x : Ino) (M : Wl) (b : Nat) (l : List Int) (hx : x.n ≠ 0) (hl : l.length = 32) (hw : ∀ z ∈ l, (Lit.int .u16 z).wf = true) : toldL x (pins b (tellB l) M) b = l := by
  rw [toldL, if_neg hx, rd_pins, tellB, bs_list, tellB_told hw hl]
theorem cutL_wf {l : List Int} (h : ∀ z ∈ l, (Lit.int .u16 z).wf = true) (p : Nat) : ∀ z ∈ cutL l p, (Lit.int .u16 z).wf = true := by
  intro z hz
  rw [cutL, List.mem_append] at hz
  rcases hz with hz | hz
  · exact h z (List.mem_of_mem_take hz)
  · rw [List.mem_replicate] at hz
    rw [hz.2]; decide
theorem toldL_cut (x : Ino) {M : Wl} (hs : Sz M) (bs p : Nat) : toldL (x.cut p) (cutM x M bs p) bs = cutL (toldL x M bs) (p - 4) := by
  have hlen := toldL_length x hs bs
  by_cases h0 : x.n = 0
  · have h1 : (x.cut p).n = 0 := by rw [Ino.cut_n]; split <;> simp [h0]
    rw [toldL, if_pos h1, toldL, if_pos h0, cutL_rep]
  · by_cases hp : p ≤ 4
    · have h1 : (x.cut p).n = 0 := by rw [Ino.cut_n, if_pos ⟨h0, hp⟩]
      rw [toldL, if_pos h1, cutL, hlen, show p - 4 = 0 by omega]
      rfl
    · have hn : ¬ (x.n ≠ 0 ∧ p ≤ 4) := fun h => hp h.2
      have h1 : (x.cut p).n ≠ 0 := by rw [Ino.cut_n, if_neg hn]; exact h0
      rw [cutM, if_neg hn]
      by_cases hz : nz ((toldL x M bs).drop (p - 4)) = []
      · rw [if_pos hz, cutL_same _ _ hz]
        rw [toldL, if_neg h1, toldL, if_neg h0]
      · rw [if_neg hz]
        exact toldL_pins _ _ _ _ h1 (by rw [cutL_length]; exact hlen) (cutL_wf (toldL_wf x M bs) _)
theorem cutM_sz (x : Ino) {M : Wl} (hs : Sz M) (bs p : Nat) : Sz (cutM x M bs p) := by
  unfold cutM
  split
  · exact hs
  split
  · exact hs
  · exact hs.put _ (tellB_size _ (by rw [cutL_length, toldL_length x hs]; decide))
/-- What is cut off and what is left are all. -/
theorem cut_perm (x : Ino) {M : Wl} (hs : Sz M) (bs p : Nat) : (cutF x M bs 0).Perm (cutF x M bs p ++ cutF (x.cut p) (cutM x M bs p) bs 0) := by
  have e1 : cutF x M bs 0 = (nz (x.ds4.take p) ++ nz (x.ds4.drop p)) ++ (nz ((toldL x M bs).take (p - 4)) ++ nz ((toldL x M bs).drop (p - 4))) ++ (if x.n ≠ 0 ∧ 0 ≤ 4 then [x.n] else []) := by
    rw [cutF, ← nz_split, ← nz_split]
    rfl
  have e2 : cutF (x.cut p) (cutM x M bs p) bs 0 = nz (x.ds4.take p) ++ nz ((toldL x M bs).take (p - 4)) ++ (if (x.cut p).n ≠ 0 ∧ 0 ≤ 4 then [(x.cut p).n] else []) := by
    rw [cutF, toldL_cut x hs, Ino.cut_ds, List.drop_zero]
    show nz (cutL x.ds4 p) ++ nz ((cutL (toldL x M bs) (p - 4)).drop (0 - 4)) ++ _ = _
    rw [show (0 - 4 : Nat) = 0 from rfl, List.drop_zero, nz_cutL, nz_cutL]
  rw [e1, e2, cutF, List.perm_iff_count]
  intro c
  simp only [List.count_append]
  rw [Ino.cut_n]
  by_cases h0 : x.n = 0
  · simp [h0]; omega
  · by_cases hp : p ≤ 4
    · simp [h0, hp]; omega
    · simp [h0, hp]; omega
/-- What was cut has nothing to be cut any more. -/
theorem cut_again (x : Ino) {M : Wl} (hs : Sz M) (bs : Nat) {p q : Nat} (h : p ≤ q) : cutF (x.cut p) (cutM x M bs p) bs q = [] := by
  rw [cutF, toldL_cut x hs, Ino.cut_ds, cutL_drop _ h, cutL_drop _ (by omega), Ino.cut_n]
  by_cases h1 : x.n ≠ 0 ∧ p ≤ 4
  · simp [h1.1, h1.2]
  · rw [if_neg h1, if_neg (fun h2 => h1 ⟨h2.1, by omega⟩)]
    rfl
theorem cut_none (x : Ino) {M : Wl} (hs : Sz M) (bs : Nat) : cutF x M bs 36 = [] ∧ cutM x M bs 36 = M ∧ x.cut 36 = x := by
  have hl := toldL_length x hs bs
  have hd : (toldL x M bs).drop 32 = [] := List.drop_eq_nil_of_le (by omega)
  have h4 : ¬ (x.n ≠ 0 ∧ 36 ≤ 4) := by omega
  refine ⟨?_, ?_, x.cut_all (by decide)⟩
  · rw [cutF, if_neg h4, show 36 - 4 = 32 from rfl, hd]
    rfl
  · rw [cutM, if_neg h4, show 36 - 4 = 32 from rfl, hd]
    rfl
theorem pg_cut (x : Ino) {M : Wl} (hs : Sz M) (bs : Nat) {p k : Nat} (h : p ≤ k) : pg (x.cut p) (cutM x M bs p) bs k = 0 := by
  unfold pg
  split
  · rw [Ino.cut_d _ _ _ ‹_›, if_neg (by omega)]
  · rw [toldL_cut x hs, cutL_get, if_neg (by omega)]
theorem pg_setd (x : Ino) (M : Wl) (bs : Nat) {k : Nat} (hk : k < 4) (v : Int) (p : Nat) : pg (x.setd k v) M bs p = if p = k then v else pg x M bs p := by
  unfold pg
  by_cases hp : p < 4
  · rw [if_pos hp, if_pos hp, Ino.setd_d x hk hp]
  · rw [if_neg hp, if_neg hp, if_neg (by omega)]
    unfold toldL
    rw [Ino.setd_n]
theorem pg_setM (x : Ino) {M : Wl} (hs : Sz M) (bs : Nat) (hx : x.n ≠ 0) {k : Nat} (hk : 4 ≤ k) (hk2 : k < 36) {v : Int} (h0 : 0 ≤ v) (h1 : v < 65536) (p : Nat) (hp36 : p < 36) : pg x (setM x M bs k v) bs p = if p = k then v else pg x M bs p := by
  have hl := toldL_length x hs bs
  have hw : ∀ z ∈ (toldL x M bs).set (k - 4) v, (Lit.int .u16 z).wf = true := fun z hz => by
    rcases List.mem_or_eq_of_mem_set hz with h | h
    · exact toldL_wf x M bs z h
    · rw [h]; exact wf_u16 h0 h1
  unfold pg
  by_cases hp : p < 4
  · rw [if_pos hp, if_pos hp, if_neg (by omega)]
  · rw [if_neg hp, if_neg hp, setM, toldL_pins x M bs _ hx (by rw [List.length_set]; exact hl) hw]
    simp only [List.getD_eq_getElem?_getD, List.getElem?_set]
    by_cases e : p = k
    · subst e
      rw [if_pos rfl, if_pos rfl, if_pos (by omega)]
      rfl
    · rw [if_neg e, if_neg (by omega)]
theorem setM_sz (x : Ino) {M : Wl} (hs : Sz M) (bs k : Nat) (v : Int) : Sz (setM x M bs k v) := hs.put _ (tellB_size _ (by rw [List.length_set, toldL_length x hs]; decide))
theorem pins_here (M : Wl) (k : Int) (b : ByteArray) : (pget k (pins k b M)).isSome = true := by rw [pins_get, if_pos rfl]; rfl
/-- An inode with an indirect block on a transaction. -/
structure St (x : Ino) (M : Wl) (bs : Nat) (B : Int) : Prop where
  wf : x.Wf
  d : ∀ k, k < 4 → x.d k ≤ B
  n : 1 ≤ x.n ∧ x.n ≤ B
  sz : Sz M
  here : (pget bs M).isSome = true
def stX (x : Ino) (k : Nat) (v : Int) : Ino := if k < 4 then x.setd k v else x
def stM (x : Ino) (M : Wl) (bs k : Nat) (v : Int) : Wl := if k < 4 then M else setM x M bs k v
theorem stX_n (x : Ino) (k : Nat) (v : Int) : (stX x k v).n = x.n := by
  unfold stX
  split
  · exact Ino.setd_n _ _ _
  · rfl
theorem St.set {x : Ino} {M : Wl} {bs : Nat} {B : Int} (h : St x M bs B) (k : Nat) {v : Int} (h0 : 0 ≤ v) (hB : v ≤ B) (h1 : v < 65536) : St (stX x k v) (stM x M bs k v) bs B := by
  unfold stX stM
  by_cases hk : k < 4
  · rw [if_pos hk, if_pos hk]
    refine ⟨Ino.setd_wf h.wf _ h0 h1, fun p hp => ?_, by rw [Ino.setd_n]; exact h.n, h.sz, h.here⟩
    rw [Ino.setd_d x hk hp]
    split
    · exact hB
    · exact h.d p hp
  · rw [if_neg hk, if_neg hk]
    exact ⟨h.wf, h.d, h.n, setM_sz x h.sz bs k v, pins_here _ _ _⟩
theorem St.pg_set {x : Ino} {M : Wl} {bs : Nat} {B : Int} (h : St x M bs B) {k : Nat} (hk : k < 36) {v : Int} (h0 : 0 ≤ v) (h1 : v < 65536) (p : Nat) (hp : p < 36) : pg (stX x k v) (stM x M bs k v) bs p = if p = k then v else pg x M bs p := by
  unfold stX stM
  by_cases hk4 : k < 4
  · rw [if_pos hk4, if_pos hk4, pg_setd x M bs hk4]
  · rw [if_neg hk4, if_neg hk4, pg_setM x h.sz bs (by have := h.n; omega) (by omega) hk h0 h1 p hp]
end Go.Proofs.YtjjphcnoegaimaaGreat
