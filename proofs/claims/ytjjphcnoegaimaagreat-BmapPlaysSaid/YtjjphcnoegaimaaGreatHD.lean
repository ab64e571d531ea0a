/- Plain laws of pages' blocks: what is set, what is cut off and what is left. Package bmap: what its iterator gives; rows beside a row that is turned. Package bmap: Cut. -/
import Derived.Test.YtjjphcnoegaimaaGreatHC
import Derived.Test.YtjjphcnoegaimaaGreatGU
namespace Go.Proofs.YtjjphcnoegaimaaGreat
open Go.RowKit
set_option linter.unusedSimpArgs false
set_option maxRecDepth 20000

theorem nz_rep (n : Nat) : nz (List.replicate n 0) = [] := by simp [nz]
theorem nz_split (l : List Int) (p : Nat) : nz l = nz (l.take p) ++ nz (l.drop p) := by rw [← nz_app, List.take_append_drop]
/-- A row with noughts from a place on. -/
def cutL (l : List Int) (p : Nat) : List Int := l.take p ++ List.replicate (l.length - p) 0
theorem cutL_length (l : List Int) (p : Nat) : (cutL l p).length = l.length := by simp [cutL]; omega
theorem nz_cutL (l : List Int) (p : Nat) : nz (cutL l p) = nz (l.take p) := by rw [cutL, nz_app, nz_rep, List.append_nil]
theorem cutL_drop (l : List Int) {p q : Nat} (h : p ≤ q) : nz ((cutL l p).drop q) = [] := by
  rw [cutL, List.drop_append, List.drop_eq_nil_of_le (by rw [List.length_take]; omega), List.nil_append, List.drop_replicate, nz_rep]
theorem cutL_get (l : List Int) (p k : Nat) : (cutL l p).getD k 0 = if k < p then l.getD k 0 else 0 := by
  rw [cutL]
  simp only [List.getD_eq_getElem?_getD, List.getElem?_append, List.length_take, List.getElem?_take, List.getElem?_replicate]
  by_cases h : k < p
  · rw [if_pos h]
    by_cases h2 : k < l.length
    · rw [if_pos (by omega), if_pos h]
    · rw [if_neg (by omega), if_neg (by omega), if_pos h, List.getElem?_eq_none (by omega)]
  · rw [if_neg (by omega), if_neg h]
    split <;> rfl
theorem cutL_rep (n p : Nat) : cutL (List.replicate n 0) p = List.replicate n 0 := by
  rw [cutL, List.take_replicate, List.length_replicate, List.replicate_append_replicate]
  congr 1
  omega
theorem cutL_same (l : List Int) (p : Nat) (h : nz (l.drop p) = []) : cutL l p = l := by
  have hd : l.drop p = List.replicate (l.length - p) 0 := by
    rw [List.eq_replicate_iff]
    refine ⟨List.length_drop, fun z hz => ?_⟩
    rw [nz, List.filter_eq_nil_iff] at h
    have := h z hz
    simpa using this
  rw [cutL, ← hd, List.take_append_drop]

/-- An inode of which pages are cut off. -/
def Ino.ds4 (x : Ino) : List Int := [x.d0, x.d1, x.d2, x.d3]
def Ino.cutd (x : Ino) (p : Nat) : Ino := { x with d0 := if 0 < p then x.d0 else 0, d1 := if 1 < p then x.d1 else 0, d2 := if 2 < p then x.d2 else 0, d3 := if 3 < p then x.d3 else 0 }
def Ino.cut (x : Ino) (p : Nat) : Ino := { x.cutd p with n := if x.n ≠ 0 ∧ p ≤ 4 then 0 else x.n }
theorem Ino.cut_ds (x : Ino) (p : Nat) : (x.cut p).ds4 = cutL x.ds4 p := by
  have : p = 0 ∨ p = 1 ∨ p = 2 ∨ p = 3 ∨ 4 ≤ p := by omega
  rcases this with rfl | rfl | rfl | rfl | h
  · rfl
  · rfl
  · rfl
  · rfl
  · have h0 : 0 < p := by omega
    have h1 : 1 < p := by omega
    have h2 : 2 < p := by omega
    have h3 : 3 < p := by omega
    rw [cutL, List.take_of_length_le (by simpa [Ino.ds4] using h)]
    simp [Ino.ds4, Ino.cut, Ino.cutd, h0, h1, h2, h3]
    omega
theorem Ino.cut_d (x : Ino) (p k : Nat) (hk : k < 4) : (x.cut p).d k = if k < p then x.d k else 0 := by
  have : k = 0 ∨ k = 1 ∨ k = 2 ∨ k = 3 := by omega
  rcases this with rfl | rfl | rfl | rfl <;> rfl
theorem Ino.cut_n (x : Ino) (p : Nat) : (x.cut p).n = if x.n ≠ 0 ∧ p ≤ 4 then 0 else x.n := rfl
theorem Ino.cut_cut (x : Ino) {p q : Nat} (h : p ≤ q) : (x.cut p).cut q = x.cut p := by
  have e : ∀ (k : Nat) (z : Int), (if k < q then (if k < p then z else 0) else 0) = if k < p then z else 0 := fun k z => by
    by_cases h1 : k < p
    · rw [if_pos h1, if_pos (by omega)]
    · rw [if_neg h1]; split <;> rfl
  have en : (if (x.cut p).n ≠ 0 ∧ q ≤ 4 then 0 else (x.cut p).n) = (x.cut p).n := by
    rw [Ino.cut_n]
    by_cases h1 : x.n ≠ 0 ∧ p ≤ 4
    · rw [if_pos h1]; split <;> rfl
    · rw [if_neg h1]
      by_cases h2 : x.n ≠ 0 ∧ q ≤ 4
      · exact absurd ⟨h2.1, by omega⟩ h1
      · rw [if_neg h2]
  rw [Ino.cut, en]
  simp only [Ino.cut, Ino.cutd, e]
theorem Ino.cut_all (x : Ino) {p : Nat} (h : 4 < p) : x.cut p = x := by
  have h0 : 0 < p := by omega
  have h1 : 1 < p := by omega
  have h2 : 2 < p := by omega
  have h3 : 3 < p := by omega
  have h4 : ¬ (x.n ≠ 0 ∧ p ≤ 4) := by omega
  simp only [Ino.cut, Ino.cutd, if_pos h0, if_pos h1, if_pos h2, if_pos h3, if_neg h4]
theorem Ino.cut_wf {x : Ino} (h : x.Wf) (p : Nat) : (x.cut p).Wf := by
  have e : ∀ (c : Prop) [Decidable c] (z : Int), 0 ≤ z ∧ z < 65536 → 0 ≤ (if c then z else 0) ∧ (if c then z else 0) < 65536 := fun c _ z hz => by
    split
    · exact hz
    · decide
  refine ⟨h.k, h.l, h.s, e _ _ h.d0, e _ _ h.d1, e _ _ h.d2, e _ _ h.d3, ?_⟩
  rw [Ino.cut_n]
  split
  · decide
  · exact h.n
theorem Ino.setd_wf {x : Ino} (h : x.Wf) (k : Nat) {v : Int} (h0 : 0 ≤ v) (h1 : v < 65536) : (x.setd k v).Wf := by
  unfold Ino.setd
  split
  · exact ⟨h.k, h.l, h.s, ⟨h0, h1⟩, h.d1, h.d2, h.d3, h.n⟩
  split
  · exact ⟨h.k, h.l, h.s, h.d0, ⟨h0, h1⟩, h.d2, h.d3, h.n⟩
  split
  · exact ⟨h.k, h.l, h.s, h.d0, h.d1, ⟨h0, h1⟩, h.d3, h.n⟩
  · exact ⟨h.k, h.l, h.s, h.d0, h.d1, h.d2, ⟨h0, h1⟩, h.n⟩
theorem Ino.setd_n (x : Ino) (k : Nat) (v : Int) : (x.setd k v).n = x.n := by
  unfold Ino.setd
  split
  · rfl
  split
  · rfl
  split <;> rfl
theorem Ino.setd_d (x : Ino) {k p : Nat} (hk : k < 4) (hp : p < 4) (v : Int) : (x.setd k v).d p = if p = k then v else x.d p := by
  have h1 : k = 0 ∨ k = 1 ∨ k = 2 ∨ k = 3 := by omega
  have h2 : p = 0 ∨ p = 1 ∨ p = 2 ∨ p = 3 := by omega
  rcases h1 with rfl | rfl | rfl | rfl <;> rcases h2 with rfl | rfl | rfl | rfl <;> rfl

/-- What is cut off; what was written behind. -/
def cutF (x : Ino) (M : Wl) (bs p : Nat) : List Int := nz (x.ds4.drop p) ++ nz ((toldL x M bs).drop (p - 4)) ++ (if x.n ≠ 0 ∧ p ≤ 4 then [x.n] else [])
def cutM (x : Ino) (M : Wl) (bs p : Nat) : Wl := if x.n ≠ 0 ∧ p ≤ 4 then M else if nz ((toldL x M bs).drop (p - 4)) = [] then M else pins bs (tellB (cutL (toldL x M bs) (p - 4))) M

theorem bs_list (l : List UInt8) : (bs l).data.toList = l := by simp [bs]
theorem rd_pins (M : Wl) (b : Nat) (c : ByteArray) : rd (pins b c M) b = c := by rw [rd, pins_get, if_pos rfl]; rfl
theorem toldL_pins (x : Ino) (M : Wl) (b : Nat) (l : List Int) (hx : x.n ≠ 0) (hl : l.length = 32) (hw : ∀ z ∈ l, (Lit.int .u16 z).wf = true) : toldL x (pins b (tellB l) M) b = l := by
  rw [toldL, if_neg hx, rd_pins, tellB, bs_list, tellB_told hw hl]
theorem cutL_wf {l : List Int} (h : ∀ z ∈ l, (Lit.int .u16 z).wf = true) (p : Nat) : ∀ z ∈ cutL l p, (Lit.int .u16 z).wf = true := by
  intro z hz
  rw [cutL, List.mem_append] at hz
  rcases hz with hz | hz
  · exact h z (List.mem_of_mem_take hz)
  · rw [List.mem_replicate] at hz
    rw [hz.2]; decide
theorem toldL_cut (x : Ino) {M : Wl} (hs : Sz M) (bs p : Nat) : toldL (x.cut p) (cutM x M bs p) bs = cutL (toldL x M bs) (p - 4) := by
  have hlen := toldL_length x hs bs
  by_cases h0 : x.n = 0
  · have h1 : (x.cut p).n = 0 := by rw [Ino.cut_n]; split <;> simp [h0]
    rw [toldL, if_pos h1, toldL, if_pos h0, cutL_rep]
  · by_cases hp : p ≤ 4
    · have h1 : (x.cut p).n = 0 := by rw [Ino.cut_n, if_pos ⟨h0, hp⟩]
      rw [toldL, if_pos h1, cutL, hlen, show p - 4 = 0 by omega]
      rfl
    · have hn : ¬ (x.n ≠ 0 ∧ p ≤ 4) := fun h => hp h.2
      have h1 : (x.cut p).n ≠ 0 := by rw [Ino.cut_n, if_neg hn]; exact h0
      rw [cutM, if_neg hn]
      by_cases hz : nz ((toldL x M bs).drop (p - 4)) = []
      · rw [if_pos hz, cutL_same _ _ hz]
        rw [toldL, if_neg h1, toldL, if_neg h0]
      · rw [if_neg hz]
        exact toldL_pins _ _ _ _ h1 (by rw [cutL_length]; exact hlen) (cutL_wf (toldL_wf x M bs) _)
theorem cutM_sz (x : Ino) {M : Wl} (hs : Sz M) (bs p : Nat) : Sz (cutM x M bs p) := by
  unfold cutM
  split
  · exact hs
  split
  · exact hs
  · exact hs.put _ (tellB_size _ (by rw [cutL_length, toldL_length x hs]; decide))
/-- What is cut off and what is left are all. -/
theorem cut_perm (x : Ino) {M : Wl} (hs : Sz M) (bs p : Nat) : (cutF x M bs 0).Perm (cutF x M bs p ++ cutF (x.cut p) (cutM x M bs p) bs 0) := by
  have e1 : cutF x M bs 0 = (nz (x.ds4.take p) ++ nz (x.ds4.drop p)) ++ (nz ((toldL x M bs).take (p - 4)) ++ nz ((toldL x M bs).drop (p - 4))) ++ (if x.n ≠ 0 ∧ 0 ≤ 4 then [x.n] else []) := by
    rw [cutF, ← nz_split, ← nz_split]
    rfl
  have e2 : cutF (x.cut p) (cutM x M bs p) bs 0 = nz (x.ds4.take p) ++ nz ((toldL x M bs).take (p - 4)) ++ (if (x.cut p).n ≠ 0 ∧ 0 ≤ 4 then [(x.cut p).n] else []) := by
    rw [cutF, toldL_cut x hs, Ino.cut_ds, List.drop_zero]
    show nz (cutL x.ds4 p) ++ nz ((cutL (toldL x M bs) (p - 4)).drop (0 - 4)) ++ _ = _
    rw [show (0 - 4 : Nat) = 0 from rfl, List.drop_zero, nz_cutL, nz_cutL]
  rw [e1, e2, cutF, List.perm_iff_count]
  intro c
  simp only [List.count_append]
  rw [Ino.cut_n]
  by_cases h0 : x.n = 0
  · simp [h0]; omega
  · by_cases hp : p ≤ 4
    · simp [h0, hp]; omega
    · simp [h0, hp]; omega
/-- What was cut has nothing to be cut any more. -/
theorem cut_again (x : Ino) {M : Wl} (hs : Sz M) (bs : Nat) {p q : Nat} (h : p ≤ q) : cutF (x.cut p) (cutM x M bs p) bs q = [] := by
  rw [cutF, toldL_cut x hs, Ino.cut_ds, cutL_drop _ h, cutL_drop _ (by omega), Ino.cut_n]
  by_cases h1 : x.n ≠ 0 ∧ p ≤ 4
  · simp [h1.1, h1.2]
  · rw [if_neg h1, if_neg (fun h2 => h1 ⟨h2.1, by omega⟩)]
    rfl
theorem cut_none (x : Ino) {M : Wl} (hs : Sz M) (bs : Nat) : cutF x M bs 36 = [] ∧ cutM x M bs 36 = M ∧ x.cut 36 = x := by
  have hl := toldL_length x hs bs
  have hd : (toldL x M bs).drop 32 = [] := List.drop_eq_nil_of_le (by omega)
  have h4 : ¬ (x.n ≠ 0 ∧ 36 ≤ 4) := by omega
  refine ⟨?_, ?_, x.cut_all (by decide)⟩
  · rw [cutF, if_neg h4, show 36 - 4 = 32 from rfl, hd]
    rfl
  · rw [cutM, if_neg h4, show 36 - 4 = 32 from rfl, hd]
    rfl
theorem pg_cut (x : Ino) {M : Wl} (hs : Sz M) (bs : Nat) {p k : Nat} (h : p ≤ k) : pg (x.cut p) (cutM x M bs p) bs k = 0 := by
  unfold pg
  split
  · rw [Ino.cut_d _ _ _ ‹_›, if_neg (by omega)]
  · rw [toldL_cut x hs, cutL_get, if_neg (by omega)]
theorem pg_setd (x : Ino) (M : Wl) (bs : Nat) {k : Nat} (hk : k < 4) (v : Int) (p : Nat) : pg (x.setd k v) M bs p = if p = k then v else pg x M bs p := by
  unfold pg
  by_cases hp : p < 4
  · rw [if_pos hp, if_pos hp, Ino.setd_d x hk hp]
  · rw [if_neg hp, if_neg hp, if_neg (by omega)]
    unfold toldL
    rw [Ino.setd_n]
theorem pg_setM (x : Ino) {M : Wl} (hs : Sz M) (bs : Nat) (hx : x.n ≠ 0) {k : Nat} (hk : 4 ≤ k) (hk2 : k < 36) {v : Int} (h0 : 0 ≤ v) (h1 : v < 65536) (p : Nat) (hp36 : p < 36) : pg x (setM x M bs k v) bs p = if p = k then v else pg x M bs p := by
  have hl := toldL_length x hs bs
  have hw : ∀ z ∈ (toldL x M bs).set (k - 4) v, (Lit.int .u16 z).wf = true := fun z hz => by
    rcases List.mem_or_eq_of_mem_set hz with h | h
    · exact toldL_wf x M bs z h
    · rw [h]; exact wf_u16 h0 h1
  unfold pg
  by_cases hp : p < 4
  · rw [if_pos hp, if_pos hp, if_neg (by omega)]
  · rw [if_neg hp, if_neg hp, setM, toldL_pins x M bs _ hx (by rw [List.length_set]; exact hl) hw]
    simp only [List.getD_eq_getElem?_getD, List.getElem?_set]
    by_cases e : p = k
    · subst e
      rw [if_pos rfl, if_pos rfl, if_pos (by omega)]
      rfl
    · rw [if_neg e, if_neg (by omega)]
theorem setM_sz (x : Ino) {M : Wl} (hs : Sz M) (bs k : Nat) (v : Int) : Sz (setM x M bs k v) := hs.put _ (tellB_size _ (by rw [List.length_set, toldL_length x hs]; decide))
theorem pins_here (M : Wl) (k : Int) (b : ByteArray) : (pget k (pins k b M)).isSome = true := by rw [pins_get, if_pos rfl]; rfl
/-- An inode with an indirect block on a transaction. -/
structure St (x : Ino) (M : Wl) (bs : Nat) (B : Int) : Prop where
  wf : x.Wf
  d : ∀ k, k < 4 → x.d k ≤ B
  n : 1 ≤ x.n ∧ x.n ≤ B
  sz : Sz M
  here : (pget bs M).isSome = true
def stX (x : Ino) (k : Nat) (v : Int) : Ino := if k < 4 then x.setd k v else x
def stM (x : Ino) (M : Wl) (bs k : Nat) (v : Int) : Wl := if k < 4 then M else setM x M bs k v
theorem stX_n (x : Ino) (k : Nat) (v : Int) : (stX x k v).n = x.n := by
  unfold stX
  split
  · exact Ino.setd_n _ _ _
  · rfl
theorem St.set {x : Ino} {M : Wl} {bs : Nat} {B : Int} (h : St x M bs B) (k : Nat) {v : Int} (h0 : 0 ≤ v) (hB : v ≤ B) (h1 : v < 65536) : St (stX x k v) (stM x M bs k v) bs B := by
  unfold stX stM
  by_cases hk : k < 4
  · rw [if_pos hk, if_pos hk]
    refine ⟨Ino.setd_wf h.wf _ h0 h1, fun p hp => ?_, by rw [Ino.setd_n]; exact h.n, h.sz, h.here⟩
    rw [Ino.setd_d x hk hp]
    split
    · exact hB
    · exact h.d p hp
  · rw [if_neg hk, if_neg hk]
    exact ⟨h.wf, h.d, h.n, setM_sz x h.sz bs k v, pins_here _ _ _⟩
theorem St.pg_set {x : Ino} {M : Wl} {bs : Nat} {B : Int} (h : St x M bs B) {k : Nat} (hk : k < 36) {v : Int} (h0 : 0 ≤ v) (h1 : v < 65536) (p : Nat) (hp : p < 36) : pg (stX x k v) (stM x M bs k v) bs p = if p = k then v else pg x M bs p := by
  unfold stX stM
  by_cases hk4 : k < 4
  · rw [if_pos hk4, if_pos hk4, pg_setd x M bs hk4]
  · rw [if_neg hk4, if_neg hk4, pg_setM x h.sz bs (by have := h.n; omega) (by omega) hk h0 h1 p hp]
end Go.Proofs.YtjjphcnoegaimaaGreat

namespace Go.Proofs.YtjjphcnoegaimaaGreat
open Go.RowKit Go.Shelf Go.Maps
set_option linter.unusedSimpArgs false
set_option maxRecDepth 20000
set_option linter.unusedVariables false

/-- What taken's iterator gives. -/
theorem taken_seq (n : Nat) (hn : 1 ≤ n) {Bf Bl b off cap : Nat} {zs : List Int} {cs : Array Value} {t : TypeId} {from_ : Int} {w : World} (hzl : zs.length ≤ 1000) (hf0 : -1000 ≤ from_) (hf1 : from_ ≤ 1000) (hBf : Bf ≠ b) (hBl : Bl ≠ b)
    (hcs : ∀ k, k < zs.length → cs[off + k]? = some (.int .u16 (zs.getD k 0))) (hbf : w.heap[Bf]? = some (.cells #[.int .i64 from_] 3 (0, 0))) (hbl : w.heap[Bl]? = some (.cells #[.slice (some ⟨b, off, none⟩) zs.length cap] 68 (0, 0))) (hb : w.heap[b]? = some (.cells cs t (0, 0))) :
    SeqW n Tryz.prog 90 #[.pointer (some ⟨Bf, 0, none⟩), .pointer (some ⟨Bl, 0, none⟩)] (fun x : Int => #[Value.int .u16 x]) (KeepB (fun k => k = b ∨ k = Bf ∨ k = Bl)) b (fun ys => ys = nz (zs.drop from_.toNat)) (Zd cs t off from_.toNat zs.length) zs.length w :=
  fun l J W hW hJ hY h0 => taken1_in n l Bf Bl b off cap hn zs hzl cs t from_ hf0 hf1 hBf hBl hcs J hJ hY W (cl_of (bblk hW hbf) 0) (cl_of (bblk hW hbl) 0) (bblk hW hb) h0

theorem ownsRow_weak {W : World} {n0 n1 : Nat} {e : TypeId} {size : Nat} {v : Value} {k : Nat} {xs : List Value} (h : W.ownsRow n1 e size v k xs) (hn : n0 ≤ n1) : W.ownsRow n0 e size v k xs := by
  obtain ⟨a, b⟩ := h
  exact ⟨a, b.imp id (fun ⟨g, cp, cur, e1, h0, r⟩ => ⟨g, cp, cur, e1, Nat.le_trans hn h0, r⟩)⟩
/-- A box takes a row that was appended to. -/
theorem boxed_app {W w1 : World} {n0 n1 B : Nat} {t e : TypeId} {size : Nat} {v v' : Value} {k m : Nat} {xs ys : List Value} {tmp : Obj}
    (hv : Boxed W B t v) (hte : t ≠ e) (hrow : W.ownsRow n1 e size v k xs) (h1 : n1 ≤ W.heap.size) (h0 : n0 ≤ n1) (hB : n0 ≤ B) (hown' : w1.ownsRow n1 e size v' m ys) (hgrow : (W.alloc tmp).grownBy w1 v.ownBlock) :
    (Boxed w1 B t v ∧ Boxed (w1.setCell ⟨B, 0, none⟩ v') B t v' ∧ (w1.setCell ⟨B, 0, none⟩ v').ownsRow n1 e size v' m ys ∧ KeepsOthers W (w1.setCell ⟨B, 0, none⟩ v') ∧ Below n0 W (w1.setCell ⟨B, 0, none⟩ v')) ∧
      ∀ k, k < W.heap.size → k ≠ B → (n1 ≤ k → ∃ o, W.heap[k]? = some o ∧ ∀ cs fz, o ≠ .cells cs e fz) → (w1.setCell ⟨B, 0, none⟩ v').heap[k]? = W.heap[k]? := by
  obtain ⟨a, b, -, c, d⟩ := hv.appended hte (ownsRow_weak hrow h0) (Nat.le_trans h0 h1) hB (ownsRow_weak hown' h0) hgrow
  refine ⟨⟨a, b, hown'.kept (grownBy_setCell' w1 B v') (.inr (a.not_row hte hown').symm), c, d⟩, fun k hk hkB hkt => ?_⟩
  refine (Below.heap_setCell w1 ⟨B, 0, none⟩ v' k hkB).trans ((hgrow.block k (by simp; omega) (fun e1 => ?_)).trans (hp_old W tmp hk))
  rcases hrow.2 with ⟨rfl, _⟩ | ⟨g, cap, cur, rfl, hg0, hgb, _⟩
  · cases e1
  · cases e1
    obtain ⟨o, h2, h3⟩ := hkt hg0
    rw [h2] at hgb
    cases hgb
    exact h3 _ _ rfl
theorem zd_ino (x : Ino) (q : Nat) {t : TypeId} {o : Obj} (h : Zd (ic x) t 3 q 4 o) : o = .cells (ic (x.cutd q)) t (0, 0) := by
  obtain ⟨c, rfl, hc⟩ := h
  congr 1
  apply Array.ext_getElem?
  intro j
  rw [hc]
  by_cases hj : j < 8
  · have : j = 0 ∨ j = 1 ∨ j = 2 ∨ j = 3 ∨ j = 4 ∨ j = 5 ∨ j = 6 ∨ j = 7 := by omega
    rcases this with rfl | rfl | rfl | rfl | rfl | rfl | rfl | rfl
    · rw [if_neg (by omega)]; rfl
    · rw [if_neg (by omega)]; rfl
    · rw [if_neg (by omega)]; rfl
    · by_cases h1 : 0 < q
      · rw [if_neg (by omega)]; simp [ic, Ino.cutd, h1]
      · rw [if_pos (by omega)]; simp [ic, Ino.cutd, h1]
    · by_cases h1 : 1 < q
      · rw [if_neg (by omega)]; simp [ic, Ino.cutd, h1]
      · rw [if_pos (by omega)]; simp [ic, Ino.cutd, h1]
    · by_cases h1 : 2 < q
      · rw [if_neg (by omega)]; simp [ic, Ino.cutd, h1]
      · rw [if_pos (by omega)]; simp [ic, Ino.cutd, h1]
    · by_cases h1 : 3 < q
      · rw [if_neg (by omega)]; simp [ic, Ino.cutd, h1]
      · rw [if_pos (by omega)]; simp [ic, Ino.cutd, h1]
    · rw [if_neg (by omega)]; rfl
  · rw [if_neg (by omega), Array.getElem?_eq_none (by simp [ic]; omega), Array.getElem?_eq_none (by simp [ic]; omega)]

theorem infoU16x : ∃ i0, Tryz.prog.info? 57 = some i0 ∧ i0.zero = some (.int .u16 0) ∧ i0.size = 1 ∧ i0.bytes = 2 := by
  have h := Tryz.infoU16'
  cases e : Tryz.prog.info? 57 with
  | none => rw [e] at h; cases h
  | some i =>
    rw [e] at h
    simp only [Option.map_some, Option.some.injEq, Prod.mk.injEq] at h
    exact ⟨i, rfl, h.1, h.2.1, h.2.2⟩
/-- What holds while blocks are taken: a row in box bf; blocks K lie as in wr. -/
structure CutI (W wr : World) (bf n5 : Nat) (K : Nat → Prop) (fs : List Int) (W' : World) : Prop where
  row : ∃ v, Boxed W' bf 68 v ∧ W'.ownsRow n5 57 1 v fs.length (u16s fs)
  below : Below W.heap.size W W'
  same : ∀ k, K k → W'.heap[k]? = wr.heap[k]?
/-- The blocks K are none of those that turn: neither the box, nor block b, nor a row of numbers. -/
structure KOk (W wr : World) (bf b n5 : Nat) (K : Nat → Prop) : Prop where
  lt : ∀ k, K k → k < wr.heap.size
  nf : ∀ k, K k → k ≠ bf
  nb : ∀ k, K k → k ≠ b
  n5' : ∀ k, K k → n5 ≤ k → ∃ o, wr.heap[k]? = some o ∧ ∀ cs fz, o ≠ .cells cs 57 fz
  gb : W.heap.size ≤ b
  b5 : b < n5
  bb : b ≠ bf
  gf : W.heap.size ≤ bf
  f5 : bf < n5
  r5 : n5 ≤ wr.heap.size
  w5 : W.heap.size ≤ n5
section
variable {W wr W' : World} {bf b n5 : Nat} {K : Nat → Prop} {fs : List Int}
theorem CutI.size (h : CutI W wr bf n5 K fs W') (hk : KOk W wr bf b n5 K) (hs : wr.heap.size ≤ W'.heap.size) : n5 ≤ W'.heap.size := Nat.le_trans hk.r5 hs
theorem CutI.own (hk : KOk W wr bf b n5 K) {f : List Int → List Int} : OwnFrom wr.heap.size (fun pre W' => CutI W wr bf n5 K (f pre) W' ∧ wr.heap.size ≤ W'.heap.size) := by
  rintro pre Wa Wb row ⟨hs, hz⟩ hg hr
  refine ⟨⟨?_, ?_, fun k hk1 => ?_⟩, Nat.le_trans hz hg.size⟩
  · obtain ⟨v, a, b⟩ := hs.row
    exact ((holdsRow_own n5 bf 68 57 1 (fun pre : List Int => (f pre).length) (fun pre => u16s (f pre)) (fun _ _ => True)) pre Wa Wb row ⟨v, a, b, trivial⟩ hg (fun r e => (hr r e).2)).imp (fun v h => ⟨h.1, h.2.1⟩)
  · exact hs.below.grown hg hs.below.size (fun k e => Nat.le_trans (Nat.le_trans hk.w5 hk.r5) (hr k e).1)
  · refine (hg.block k (Nat.lt_of_lt_of_le (hk.lt k hk1) hz) (fun e => ?_)).trans (hs.same k hk1)
    have := (hr k e.symm).1
    have := hk.lt k hk1
    omega
theorem CutI.turn (hk : KOk W wr bf b n5 K) (h : CutI W wr bf n5 K fs W') (j : Nat) (u : Value) : CutI W wr bf n5 K fs (W'.setCell ⟨b, j, none⟩ u) := by
  have hb : ∀ k, k ≠ b → (W'.setCell ⟨b, j, none⟩ u).heap[k]? = W'.heap[k]? := fun k hk => Below.heap_setCell W' _ _ k hk
  refine ⟨?_, h.below.setCell hk.gb _, fun k hk1 => (hb k (hk.nb k hk1)).trans (h.same k hk1)⟩
  obtain ⟨v, h1, h2⟩ := h.row
  refine ⟨v, (hb bf hk.bb.symm).trans h1, ownsRow_blockB h2 (fun k e => ?_)⟩
  rcases h2.2 with ⟨rfl, _⟩ | ⟨g, cap, cur, rfl, h0, _⟩
  · cases e
  · cases e
    have hgb : g ≠ b := by have := hk.b5; omega
    exact hb g hgb
theorem CutI.app {w1 : World} {v v' : Value} {x : Int} {tmp : Obj} (hk : KOk W wr bf b n5 K) (h : CutI W wr bf n5 K fs W') (hz : wr.heap.size ≤ W'.heap.size) (hv : Boxed W' bf 68 v) (hrow : W'.ownsRow n5 57 1 v fs.length (u16s fs))
    (hown' : w1.ownsRow n5 57 1 v' (fs.length + 1) (u16s fs ++ [.int .u16 x])) (hgrow : (W'.alloc tmp).grownBy w1 v.ownBlock) :
    Boxed w1 bf 68 v ∧ Hid (KeepsOthers W' (w1.setCell ⟨bf, 0, none⟩ v') ∧ (∀ k, (k = b ∨ K k) → (w1.setCell ⟨bf, 0, none⟩ v').heap[k]? = W'.heap[k]?) ∧ CutI W wr bf n5 K (fs ++ [x]) (w1.setCell ⟨bf, 0, none⟩ v') ∧ wr.heap.size ≤ (w1.setCell ⟨bf, 0, none⟩ v').heap.size) := by
  obtain ⟨⟨h1, h2, h3, h4, h5⟩, h6⟩ := boxed_app (n0 := W.heap.size) hv (by decide) hrow (Nat.le_trans hk.r5 hz) hk.w5 hk.gf hown' hgrow
  have hK : ∀ k, K k → (w1.setCell ⟨bf, 0, none⟩ v').heap[k]? = W'.heap[k]? := fun k hk1 => h6 k (Nat.lt_of_lt_of_le (hk.lt k hk1) hz) (hk.nf k hk1) (fun hn => by
    obtain ⟨o, a, b⟩ := hk.n5' k hk1 hn
    exact ⟨o, (h.same k hk1).trans a, b⟩)
  refine ⟨h1, Lib.hid ⟨h4, fun k hk1 => ?_, ⟨⟨v', h2, ?_⟩, ?_, fun k hk1 => (hK k hk1).trans (h.same k hk1)⟩, Nat.le_trans hz h4.size⟩⟩
  · rcases hk1 with rfl | hk1
    · exact h6 k (by have := hk.b5; have := hk.r5; omega) hk.bb (fun hn => by have := hk.b5; omega)
    · exact hK k hk1
  · have e : u16s (fs ++ [x]) = u16s fs ++ [Value.int .u16 x] := by simp [u16s]
    rw [List.length_append, e]
    exact h3
  · exact h.below.trans h5
end

section
variable {w0 W Wb : World} {X X2 : Nat → Prop} {p jb N tb m n5 k D D2 : Nat} {M : Wl} {v : Value} {xs : List Value}
/-- The end of a call that ranged twice. -/
structure FS (w0 W : World) (X X2 : Nat → Prop) (p jb N tb m : Nat) (M : Wl) (n5 : Nat) (v : Value) (k : Nat) (xs : List Value) (D D2 : Nat) (Wb : World) : Prop where
  tj : TJ w0 X2 p jb N 0 1 40 0 0 (newS N) tb m M false Wb
  kb : Kb w0 (fun k => X k ∧ k ≠ m) W Wb
  row : Wb.ownsRow n5 57 1 v k xs
  d : Wb.heap[D]? = some (.deferred (some []))
  d2 : Wb.heap[D2]? = some (.deferred (some []))
  rx : ∀ j, v.ownBlock = some j → X2 j
structure FK (w0 W : World) (X X2 : Nat → Prop) (jb tb m n5 D D2 : Nat) : Prop where
  hX : ∀ k, X k → k < W.heap.size
  xj : X jb
  xt : X tb
  xm : X m
  w : w0.heap.size ≤ W.heap.size
  n5' : W.heap.size ≤ n5
  d : n5 ≤ D
  d2 : n5 ≤ D2
  dd : D ≠ D2
  xx : ∀ k, X k → X2 k
  x2 : X2 D ∧ X2 D2
theorem FS.set (h : FS w0 W X X2 p jb N tb m M n5 v k xs D D2 Wb) (hk : FK w0 W X X2 jb tb m n5 D D2) {b : Nat} (hb : W.heap.size ≤ b) (hb5 : b < n5) (hx : X2 b) (o : Nat) (u : Value) : FS w0 W X X2 p jb N tb m M n5 v k xs D D2 (Wb.setCell ⟨b, o, none⟩ u) := by
  have hj := hk.hX _ hk.xj
  have ht := hk.hX _ hk.xt
  have hm := hk.hX _ hk.xm
  have hw := hk.w
  have hd := hk.d
  have hd2 := hk.d2
  have hs : ∀ j, j ≠ b → (Wb.setCell ⟨b, o, none⟩ u).heap[j]? = Wb.heap[j]? := fun j hj => kb_set o u j hj
  refine ⟨h.tj.setC hx (by omega) (by omega) (by omega) (by omega) o u, fun j hj2 => ?_, ?_, (hs D (by omega)).trans h.d, (hs D2 (by omega)).trans h.d2, h.rx⟩
  · refine (hs j ?_).trans (h.kb j hj2)
    rcases hj2 with e | e
    · omega
    · have := hk.hX j e.1; omega
  · refine ownsRow_blockB h.row (fun j e => ?_)
    rcases h.row.2 with ⟨rfl, _⟩ | ⟨g, cap, cur, rfl, h0, _⟩
    · cases e
    · cases e
      have hgb : g ≠ b := by omega
      exact hs g hgb
theorem FS.drew (h : FS w0 W X X2 p jb N tb m M n5 v k xs D D2 Wb) : FS w0 W X X2 p jb N tb m M n5 v k xs D D2 Wb.drew := ⟨h.tj.drewn 1, h.kb, h.row, h.d, h.d2, h.rx⟩
theorem FS.put1 (h : FS w0 W X X2 p jb N tb m M n5 v k xs D D2 Wb) (hk : FK w0 W X X2 jb tb m n5 D D2) : (Wb.putObj D2 (.deferred none)).heap[D]? = some (.deferred (some [])) := (World.putObj_heap_other (fun e => hk.dd e)).trans h.d
theorem FS.finX (h : FS w0 W X X2 p jb N tb m M n5 v k xs D D2 Wb) (hk : FK w0 W X X2 jb tb m n5 D D2) : TJ w0 X2 p jb N 0 1 40 0 0 (newS N) tb m M false ((Wb.putObj D2 (.deferred none)).putObj D (.deferred none)) := by
  have hw := hk.w
  have hn := hk.n5'
  have hd := hk.d
  have hd2 := hk.d2
  exact (h.tj.putD hk.x2.2 (by omega) h.d2 _).putD hk.x2.1 (by omega) (h.put1 hk) _
theorem row_rx {W : World} {B : Nat} {e : TypeId} {size : Nat} {v : Value} {k : Nat} {xs : List Value} (h : W.ownsRow B e size v k xs) : ∀ j, v.ownBlock = some j → B ≤ j ∧ j < W.heap.size := fun j e => by
  rcases h.2 with ⟨rfl, _⟩ | ⟨g, cap, cur, rfl, h0, hh, _⟩
  · cases e
  · cases e
    exact ⟨h0, blk_lt hh⟩
theorem FS.fin (h : FS w0 W X X2 p jb N tb m M n5 v k xs D D2 Wb) (hk : FK w0 W X X2 jb tb m n5 D D2) : ((Wb.putObj D2 (.deferred none)).putObj D (.deferred none)).ownsRow W.heap.size 57 1 v k xs ∧ TJ w0 X p jb N 0 1 40 0 0 (newS N) tb m M false ((Wb.putObj D2 (.deferred none)).putObj D (.deferred none)) ∧ Kb w0 (fun k => X k ∧ k ≠ m) W ((Wb.putObj D2 (.deferred none)).putObj D (.deferred none)) := by
  have hw := hk.w
  have hn := hk.n5'
  have hd := hk.d
  have hd2 := hk.d2
  have hs : ∀ j, j ≠ D → j ≠ D2 → ((Wb.putObj D2 (.deferred none)).putObj D (.deferred none)).heap[j]? = Wb.heap[j]? := fun j h1 h2 => (World.putObj_heap_other h1).trans (World.putObj_heap_other h2)
  refine ⟨ownsRow_weak (ownsRow_blockB h.row (fun j e => ?_)) hn, ((h.tj.putD hk.x2.2 (by omega) h.d2 _).putD hk.x2.1 (by omega) (h.put1 hk) _).less hk.xx hk.xj hk.xt hk.xm, fun j hj => (hs j ?_ ?_).trans (h.kb j hj)⟩
  · rcases h.row.2 with ⟨rfl, _⟩ | ⟨g, cap, cur, rfl, h0, hh, _⟩
    · cases e
    · cases e
      refine hs g (fun e => ?_) (fun e => ?_)
      · rw [e] at hh; rw [h.d] at hh; cases hh
      · rw [e] at hh; rw [h.d2] at hh; cases hh
  · rcases hj with e | e
    · omega
    · have := hk.hX j e.1; omega
  · rcases hj with e | e
    · omega
    · have := hk.hX j e.1; omega
/-- An inode is laid in a block. -/
def put8 (W : World) (b : Nat) (y : Ino) : World := (((((((W.setCell ⟨b, 0, none⟩ (.int .u8 y.k)).setCell ⟨b, 1, none⟩ (.int .u16 y.l)).setCell ⟨b, 2, none⟩ (.int .u32 y.s)).setCell ⟨b, 3, none⟩ (.int .u16 y.d0)).setCell ⟨b, 4, none⟩ (.int .u16 y.d1)).setCell ⟨b, 5, none⟩ (.int .u16 y.d2)).setCell ⟨b, 6, none⟩ (.int .u16 y.d3)).setCell ⟨b, 7, none⟩ (.int .u16 y.n)
theorem put8_other (W : World) {b k : Nat} (hk : k ≠ b) (y : Ino) : (put8 W b y).heap[k]? = W.heap[k]? := by
  unfold put8
  rw [kb_set _ _ k hk, kb_set _ _ k hk, kb_set _ _ k hk, kb_set _ _ k hk, kb_set _ _ k hk, kb_set _ _ k hk, kb_set _ _ k hk, kb_set _ _ k hk]
theorem put8_here {W : World} {b : Nat} {x : Ino} (h : W.heap[b]? = some (.cells (ic x) 61 (0, 0))) (y : Ino) : (put8 W b y).heap[b]? = some (.cells (ic y) 61 (0, 0)) := by
  have h1 := blk_here h 0 (Value.int .u8 y.k)
  have h2 := blk_here h1 1 (Value.int .u16 y.l)
  have h3 := blk_here h2 2 (Value.int .u32 y.s)
  have h4 := blk_here h3 3 (Value.int .u16 y.d0)
  have h5 := blk_here h4 4 (Value.int .u16 y.d1)
  have h6 := blk_here h5 5 (Value.int .u16 y.d2)
  have h7 := blk_here h6 6 (Value.int .u16 y.d3)
  have h8 := blk_here h7 7 (Value.int .u16 y.n)
  clear h h1 h2 h3 h4 h5 h6 h7
  unfold put8
  rw [h8]
  simp [ic]
theorem FS.put8 (h : FS w0 W X X2 p jb N tb m M n5 v k xs D D2 Wb) (hk : FK w0 W X X2 jb tb m n5 D D2) {b : Nat} (hb : W.heap.size ≤ b) (hb5 : b < n5) (hx : X2 b) (y : Ino) : FS w0 W X X2 p jb N tb m M n5 v k xs D D2 (put8 Wb b y) :=
  (((((((h.set hk hb hb5 hx 0 _).set hk hb hb5 hx 1 _).set hk hb hb5 hx 2 _).set hk hb hb5 hx 3 _).set hk hb hb5 hx 4 _).set hk hb hb5 hx 5 _).set hk hb hb5 hx 6 _).set hk hb hb5 hx 7 _
theorem end_facts {W1 : World} {br bf : Nat} {x : Ino} {t : TypeId} {u : Value} (hr : W1.heap[br]? = some (.cells (ic x) 61 (0, 0))) (hv : Boxed W1 bf t u) (hb : br ≠ bf) (y : Ino) (v' : Value) :
    ((put8 W1 br y).setCell ⟨bf, 0, none⟩ v').drew.heap[br]? = some (.cells (ic y) 61 (0, 0)) ∧ Boxed (((put8 W1 br y).setCell ⟨bf, 0, none⟩ v').drew) bf t v' := by
  have h1 := put8_here hr y
  have h2 : Boxed (put8 W1 br y) bf t u := (put8_other W1 hb.symm y).trans hv
  generalize put8 W1 br y = W2 at *
  have h3 : (W2.setCell ⟨bf, 0, none⟩ v').heap[br]? = W2.heap[br]? := kb_set 0 _ br hb
  have h4 : Boxed (W2.setCell ⟨bf, 0, none⟩ v') bf t v' := Boxed.set _ h2
  generalize W2.setCell ⟨bf, 0, none⟩ v' = W3 at *
  exact ⟨h3.trans h1, h4⟩
theorem FS.last {br bf : Nat} (h : FS w0 W X X2 p jb N tb m M n5 v k xs D D2 Wb) (hk : FK w0 W X X2 jb tb m n5 D D2) (h1 : W.heap.size ≤ br) (h2 : br < n5) (h3 : X2 br) (h4 : W.heap.size ≤ bf) (h5 : bf < n5) (h6 : X2 bf) (y : Ino) (v' : Value) :
    FS w0 W X X2 p jb N tb m M n5 v k xs D D2 ((Go.Proofs.YtjjphcnoegaimaaGreat.put8 Wb br y).setCell ⟨bf, 0, none⟩ v').drew := ((h.put8 hk h1 h2 h3 y).set hk h4 h5 h6 0 v').drew
end
end Go.Proofs.YtjjphcnoegaimaaGreat

namespace Go.Proofs.YtjjphcnoegaimaaGreat
open Go.RowKit Go.Shelf Go.Maps
set_option linter.unusedSimpArgs false
attribute [local go_sem] Oper.semAt_some
set_option maxRecDepth 20000
set_option linter.unusedVariables false

section
variable {w0 w W W' : World} {X : Nat → Prop} {p jb N tb m bsn : Nat} {M : Wl} {i b j v : Int} {x : Ino}
theorem nil_nums (w : World) : (zeroValue 68).run Tryz.prog w = .ok (.slice none 0 0) w := by kernel_rfl
/-- What Cut answers. -/
def CutPost (w0 : World) (X : Nat → Prop) (p jb N tb m bsn : Nat) (M : Wl) (x : Ino) (q : Nat) (W : World) (e : Ending) (W' : World) : Prop :=
  ∃ v, e = .returned (.tuple #[.agg (ic (x.cut q)), v, .int .i64 0]) ∧ W'.ownsRow W.heap.size 57 1 v (cutF x M bsn q).length (u16s (cutF x M bsn q)) ∧ TJ w0 X p jb N 0 1 40 0 0 (newS N) tb m (cutM x M bsn q) false W' ∧ Kb w0 (fun k => X k ∧ k ≠ m) W W'
/-- What Cut answers: the row is the caller's. -/
def CutPost2 (w0 : World) (X : Nat → Prop) (p jb N tb m bsn : Nat) (M : Wl) (x : Ino) (q : Nat) (W : World) (e : Ending) (W' : World) : Prop :=
  ∃ v X2, e = .returned (.tuple #[.agg (ic (x.cut q)), v, .int .i64 0]) ∧ W'.ownsRow W.heap.size 57 1 v (cutF x M bsn q).length (u16s (cutF x M bsn q)) ∧ (∀ k, X k → X2 k) ∧ (∀ j, v.ownBlock = some j → X2 j) ∧ TJ w0 X2 p jb N 0 1 40 0 0 (newS N) tb m (cutM x M bsn q) false W' ∧ Kb w0 (fun k => X k ∧ k ≠ m) W W'
set_option maxRecDepth 100000 in
set_option maxHeartbeats 8000000 in
theorem bcut_any2 (h : TJ w0 X p jb N 0 1 40 0 0 (newS N) tb m M false W) (hg : GeoN i b j N) (hm : MayB i b j x 0) (hx : x.Wf) (hs : Sz M) (hb : x.n ≠ 0 → (bsn : Int) = fr i b j 5 + x.n - 1) (q : Nat) (hq : q ≤ 36) (hfit : (pget bsn M).isSome = true ∨ M.length < 37) :
    Calls Tryz.prog 29 #[.pointer (some ⟨tb, 0, none⟩), gv i b j, .agg (ic x), .int .i64 q] W (CutPost2 w0 X p jb N tb m bsn M x q W) := by
  have hmy := fun W => bmay_yes hm hx (Int.le_refl 0) (by decide) (tb := tb) W
  have htd := fun (W2 : World) (hB : Below W.heap.size W W2) => btold_any (h.of hB) hg hx hm.n hs hb
  have hlen := toldL_length x hs bsn
  have htl := fun (W2 : World) (X2 : Nat → Prop) (h2 : TJ w0 X2 p jb N 0 1 40 0 0 (newS N) tb m M false W2) (l : Value) (hv : SlI .u16 W2 l (cutL (toldL x M bsn) (q - 4))) (hn1 : 1 ≤ x.n) =>
    btell_any (x := x.cutd q) h2 hg (by have := Ino.cut_wf hx q; exact ⟨this.k, this.l, this.s, this.d0, this.d1, this.d2, this.d3, hx.n⟩) hm.n hn1 (hb (by show x.n ≠ 0; omega)) hv (by rw [cutL_length, hlen]; decide) hfit
  unfold gv at hmy htd htl ⊢
  have hB1 : Below W.heap.size W ((((W.alloc (.cells #[.int .i64 i, .int .i64 b, .int .i64 j] 56)).alloc (.cells (ic x) 61)).alloc (.cells (ic Ino.zero) 61)).alloc (.cells #[.slice none 0 0] 68)) := bal (bal (bal (bnew _ _) _) _) _
  have HMY := Lib.hid hmy
  have HTD := Lib.hid htd
  have HTL := Lib.hid htl
  have HH := Lib.hid h
  have HXN := Lib.hid hx.n
  have HS := Lib.hid hs
  clear hmy hm hx htd htl h hs hg hfit hb
  have e1 : decide ((q : Int) ≥ 0) = true := decide_eq_true (by omega)
  have e2 : decide ((q : Int) ≤ 36) = true := decide_eq_true (by omega)
  unfold ic at *
  refine (callsIn_wide (n := 9)).1 (callsIn_of_wp_marks Tryz.func29 rfl trivial ?_ rfl)
  refine wpIn_wide.2 ?_
  simp only [Tryz.ntmps29, List.size_toArray, List.length_cons, List.length_nil, Nat.reduceAdd, Nat.reduceSub, Array.replicate_succ, Array.replicate_zero, List.push_toArray, List.append_toArray, List.nil_append, List.cons_append]
  go_wp2_with fail
  obtain ⟨W1, hW1⟩ : ∃ W1, (((W.alloc (.cells #[.int .i64 i, .int .i64 b, .int .i64 j] 56)).alloc (.cells #[.int .u8 x.k, .int .u16 x.l, .int .u32 x.s, .int .u16 x.d0, .int .u16 x.d1, .int .u16 x.d2, .int .u16 x.d3, .int .u16 x.n] 61)).alloc (.cells #[.int .u8 0, .int .u16 0, .int .u32 0, .int .u16 0, .int .u16 0, .int .u16 0, .int .u16 0, .int .u16 0] 61)).alloc (.cells #[.slice none 0 0] 68) = W1 := ⟨_, rfl⟩
  have b6 : W1.heap[W.heap.size]? = some (.cells #[.int .i64 i, .int .i64 b, .int .i64 j] 56 (0, 0)) := by
    rw [← hW1, hp_old _ _ (by simp; omega), hp_old _ _ (by simp; try omega), hp_old _ _ (by simp), hp_new _ _ rfl]
  have b7 : W1.heap[W.heap.size + 1]? = some (.cells #[.int .u8 x.k, .int .u16 x.l, .int .u32 x.s, .int .u16 x.d0, .int .u16 x.d1, .int .u16 x.d2, .int .u16 x.d3, .int .u16 x.n] 61 (0, 0)) := by
    rw [← hW1, hp_old _ _ (by simp; try omega), hp_old _ _ (by simp), hp_new _ _ (by simp)]
  have b10 : W1.heap[W.heap.size + 1 + 1]? = some (.cells #[.int .u8 0, .int .u16 0, .int .u32 0, .int .u16 0, .int .u16 0, .int .u16 0, .int .u16 0, .int .u16 0] 61 (0, 0)) := by
    rw [← hW1, hp_old _ _ (by simp), hp_new _ _ (by simp)]
  have b11 : Boxed W1 (W.heap.size + 1 + 1 + 1) 68 (.slice none 0 0) := by
    rw [← hW1]; exact hp_new _ _ (by simp)
  have hB1' : Below W.heap.size W W1 := by rw [← hW1]; exact hB1
  simp only [hW1]
  clear hW1 hB1
  refine (HMY.out _).mono ?_
  rintro e w2 ⟨rfl, hB2⟩
  have HB2 := Lib.hid (bt hB1' hB2)
  have c6 := bblk hB2 b6
  have c7 := bblk hB2 b7
  have c10 := bblk hB2 b10
  have c11 := bblk hB2 b11
  clear hB1' hB2 b6 b7 b10 b11
  obtain ⟨bg, hbg⟩ : ∃ bg, W.heap.size = bg := ⟨_, rfl⟩
  obtain ⟨bx, hbx⟩ : ∃ bx, bg + 1 = bx := ⟨_, rfl⟩
  obtain ⟨br, hbr⟩ : ∃ br, bx + 1 = br := ⟨_, rfl⟩
  obtain ⟨bf, hbf⟩ : ∃ bf, br + 1 = bf := ⟨_, rfl⟩
  rw [hbg] at c6 c7 c10 c11
  rw [hbx] at c7 c10 c11
  rw [hbr] at c10 c11
  rw [hbf] at c11
  simp only [hbg, hbx, hbr, hbf]
  have HBX : Hid (W.heap.size = bg ∧ bg + 1 = bx ∧ bx + 1 = br ∧ br + 1 = bf) := Lib.hid ⟨hbg, hbx, hbr, hbf⟩
  clear hbg hbx hbr hbf
  have C6 := Lib.hid c6
  have C7 := Lib.hid c7
  have C10 := Lib.hid c10
  have C11 := Lib.hid c11
  have HF2 : Hid (bf < w2.heap.size) := Lib.hid (blk_lt c11)
  have g0 := cl_of c6 0
  have g1 := cl_of c6 1
  have g2 := cl_of c6 2
  have q0 := cl_of c7 0
  have q1 := cl_of c7 1
  have q2 := cl_of c7 2
  have q3 := cl_of c7 3
  have q4 := cl_of c7 4
  have q5 := cl_of c7 5
  have q6 := cl_of c7 6
  have q7 := cl_of c7 7
  clear c6 c7 c10 c11
  go_wp2_with fail
  refine (HTD.out _ HB2.out).mono ?_
  rintro e w4 ⟨lv, rfl, hrow, hB4⟩
  have HB4 := Lib.hid (bt HB2.out hB4)
  have c6 := bblk hB4 C6.out
  have c7 := bblk hB4 C7.out
  have c10 := bblk hB4 C10.out
  have c11 := bblk hB4 C11.out
  clear hB4 g0 g1 g2 q0 q1 q2 q3 q4 q5 q6 q7 C6 C7 C10 C11
  obtain ⟨g, cap, cur, rfl, hg0, hgb, hgc⟩ : ∃ g cap cur, lv = .slice (some ⟨g, 0, none⟩) 32 cap ∧ w2.heap.size ≤ g ∧ w4.heap[g]? = some (.cells cur 57 (0, 0)) ∧ ∀ k, k < 32 → cur[k]? = some (.int .u16 ((toldL x M bsn).getD k 0)) := by
    have hro := hrow
    rcases hrow.2 with ⟨rfl, h0⟩ | ⟨g, c, cur, rfl, h0, hh, hr⟩
    · omega
    · refine ⟨_, _, _, rfl, h0, hh, fun k hk => ?_⟩
      have hc := ownsRow_cell (ownsRow_base hro) rfl (u16s_get (toldL x M bsn) (k := k) (by rw [hlen]; exact hk))
      rw [cl_of hh] at hc
      simpa using hc
  have HG := Lib.hid hgb
  have HGC := Lib.hid hgc
  have HG0 := Lib.hid hg0
  have HL := Lib.hid hlen
  have C6 := Lib.hid c6
  have C7 := Lib.hid c7
  have C10 := Lib.hid c10
  have C11 := Lib.hid c11
  clear hrow hgb hgc hg0 hlen
  go_wp2_with fail
  refine (taken_any _ _ _ _ _).mono ?_
  rintro e w5 ⟨B1, L1, rfl, hB5, hBf0, hBl0, hbf, hbl, hBfl, hBll⟩
  have d7 := bblk hB5 C7.out
  have d11 := bblk hB5 C11.out
  have dg := bblk hB5 HG.out
  have C6 := Lib.hid (bblk hB5 C6.out)
  have C10 := Lib.hid (bblk hB5 C10.out)
  have HBL5 := Lib.hid (bt HB4.out hB5)
  have hs4 := blk_lt HG.out
  have hs45 := hB5.size
  have hsx := blk_lt C11.out
  have hbx := HBX.out
  have hsg := Nat.le_trans HB2.out.size HG0.out
  have hgx : bf < g := Nat.lt_of_lt_of_le HF2.out HG0.out
  have kok : KOk W w5 bf bx w5.heap.size (fun k => k < w5.heap.size ∧ k ≠ bf ∧ k ≠ bx) := ⟨fun k h => h.1, fun k h => h.2.1, fun k h => h.2.2, fun k h h2 => by omega, by omega, by omega, by omega, by omega, by omega, Nat.le_refl _, by omega⟩
  have hseq := taken_seq 8 (by decide) (zs := x.ds4) (cs := ic x) (off := 3) (by show 4 ≤ 1000; decide) (by omega) (by omega) (show B1 ≠ bx by omega) (show L1 ≠ bx by omega) (fun k hk => by
    have : k = 0 ∨ k = 1 ∨ k = 2 ∨ k = 3 := by simp [Ino.ds4] at hk; omega
    rcases this with rfl | rfl | rfl | rfl <;> rfl) hbf hbl d7
  rw [Int.toNat_natCast, show x.ds4.length = 4 from rfl] at hseq
  have hI0 : CutI W w5 bf w5.heap.size (fun k => k < w5.heap.size ∧ k ≠ bf ∧ k ≠ bx) [] w5 := ⟨⟨_, d11, World.ownsRow_nil _ _ _ _⟩, HBL5.out, fun k _ => rfl⟩
  have hB1l : B1 < w5.heap.size ∧ B1 ≠ bf ∧ B1 ≠ bx := ⟨hBfl, by omega, by omega⟩
  have hL1l : L1 < w5.heap.size ∧ L1 ≠ bf ∧ L1 ≠ bx := ⟨hBll, by omega, by omega⟩
  have hbx5 : bx < w5.heap.size := by omega
  have HK := Lib.hid kok
  have HSQ := Lib.hid hseq
  have HI0 := Lib.hid hI0
  have HB1L := Lib.hid hB1l
  have HL1L := Lib.hid hL1l
  have HBX5 := Lib.hid hbx5
  have HKB : Hid (∀ k, (k = bx ∨ k = B1 ∨ k = L1) → k < w5.heap.size) := Lib.hid (by
    rintro k (rfl | rfl | rfl)
    · exact hbx5
    · exact hBfl
    · exact hBll)
  have HG5 := Lib.hid dg
  have HGX : Hid (bf < g ∧ g < w4.heap.size ∧ w4.heap.size ≤ w5.heap.size) := Lib.hid ⟨hgx, hs4, hs45⟩
  clear kok hseq hI0 hB1l hL1l hbx5 dg hs4 hs45 hsx hbx hsg hgx d7 d11 hbf hbl hBf0 hBl0 hBfl hBll HBL5 HMY HTD HF2 hB5 C7 C11 HG HG0
  go_wp2_with fail
  refine (wpIn_wide (n := 9)).1 ?_
  refine wpIn_rangeW (b := bx) (by omega) (gf := 90) rfl (fun _ _ => by rfl) HSQ.out HBX5.out KeepB.t (KeepB.b HKB.out) (Below.refl _ _) (fun _ => rfl)
    (fun pre W' => CutI W w5 bf w5.heap.size (fun k => k < w5.heap.size ∧ k ≠ bf ∧ k ≠ bx) pre W' ∧ w5.heap.size ≤ W'.heap.size) (CutI.own HK.out (f := id)) (fun pre k v W1 h => ⟨h.1.turn HK.out k v, by simpa [World.setCell] using h.2⟩) ⟨HI0.out, Nat.le_refl _⟩ ?a1 ?assign ?body ?done
  case assign =>
    intro l x W K hK
    gi_wp2
    exact hK
  case body =>
    rintro l1 pre z W1 ⟨hI, hz⟩ hlen
    obtain ⟨v, hv, hrow⟩ := hI.row
    obtain ⟨i0, hi, hz0, hz1, hz2⟩ := infoU16x
    have hc := hv.cell
    have hl4 : pre.length < 4 := hlen
    have hl2 : pre.length + 1 ≤ maxLen := by unfold maxLen; omega
    have HI := Lib.hid hI
    clear hI hlen
    gi_wp2_with (first | (gi_at_builtin; refine wpListIn_append_at _ rfl _ _ 68 rfl w5.heap.size 57 i0 (.int .u16 0) 1 2 Tryz.underlying68 hi hz0 hz1 hz2 rfl (by decide) _ _ _ rfl (hrow.alloc _) ⟨W1.heap.size, 0, none⟩ 1 1 [.int .u16 z] rfl rfl (World.news_of_block (hp_new _ _ rfl)) (by simp [Value.oneCell']) hl2 (by omega) (by simp; omega) ?_; intro v' w1 hown' hgrow _ _; obtain ⟨g', cap', rfl⟩ := ownsRow_succ hown'; obtain ⟨hv1, hpost⟩ := CutI.app HK.out HI.out hz hv hrow hown' hgrow; have hc1 := hv1.cell; have hf1 := hv1.frozen) | gi_in)
    refine ⟨hpost.out.1, ?_, hpost.out.2.2⟩
    rintro k (rfl | rfl | rfl)
    · exact hpost.out.2.1 _ (.inl rfl)
    · exact hpost.out.2.1 _ (.inr HB1L.out)
    · exact hpost.out.2.1 _ (.inr HL1L.out)
  case done =>
    rintro D xs W6 hD rfl ⟨hI, hz⟩ ⟨o, ho, hzd⟩ hD6
    obtain rfl := zd_ino x q hzd
    obtain ⟨v, hv, hrow⟩ := hI.row
    generalize hf1 : nz (x.ds4.drop q) = f1 at *
    have hl1 : f1.length ≤ 4 := by
      rw [← hf1, nz]
      refine Nat.le_trans (List.length_filter_le _ _) ?_
      rw [List.length_drop]
      show 4 - q ≤ 4
      omega
    obtain ⟨ao, cp, rfl⟩ : ∃ ao cp, v = .slice ao f1.length cp := by
      rcases hrow.2 with ⟨rfl, h0⟩ | ⟨g', c, cur, rfl, _⟩
      · exact ⟨_, _, by rw [h0]⟩
      · exact ⟨_, _, rfl⟩
    have hbx := HBX.out
    have hgx := HGX.out
    have c6 := (hI.same bg ⟨by have := HBX5.out; omega, by omega, by omega⟩).trans C6.out
    have c10 := (hI.same br ⟨by have := HK.out.f5; omega, by omega, by omega⟩).trans C10.out
    have cg := (hI.same g ⟨by omega, by omega, by omega⟩).trans HG5.out
    have hc := hv.cell
    have HF1 := Lib.hid hf1
    have HI6 := Lib.hid hI
    have HV6 := Lib.hid hv
    have HR6 := Lib.hid hrow
    have C6' := Lib.hid c6
    have C7' := Lib.hid ho
    have C10' := Lib.hid c10
    have CG' := Lib.hid cg
    have HD6 := Lib.hid hD6
    have HDL : Hid (w5.heap.size ≤ D ∧ D < W6.heap.size) := Lib.hid ⟨hD, blk_lt hD6⟩
    have hw4 : IntKind.i64.wrap ((q : Int) - 4) = (q : Int) - 4 := i64_sm (by omega) (by omega)
    clear hf1 hI hv hrow c6 ho c10 cg hD6 hD hz hzd hbx hgx C6 C10 HG5 HSQ HI0 HB1L HL1L HKB
    go_wp2_with fail
    refine (taken_any _ _ _ _ _).mono ?_
    rintro e w7 ⟨B2, L2, rfl, hB7, hBf0, hBl0, hbf, hbl, hBfl, hBll⟩
    have hbx := HBX.out
    have hgx := HGX.out
    have hx5 := HBX5.out
    have hf5 := HK.out.f5
    have hdl := HDL.out
    have h67 := hB7.size
    have dg := bblk hB7 CG'.out
    have d6 := bblk hB7 C6'.out
    have d7 := bblk hB7 C7'.out
    have d10 := bblk hB7 C10'.out
    have dd := bblk hB7 HD6.out
    have kok : KOk W w7 bf g w5.heap.size (fun k => k = bg ∨ k = br ∨ k = bx ∨ k = B2 ∨ k = L2 ∨ k = D) := by
      refine ⟨?_, ?_, ?_, ?_, by omega, by omega, by omega, by omega, by omega, by omega, by omega⟩
      · rintro k (rfl | rfl | rfl | rfl | rfl | rfl) <;> omega
      · rintro k (rfl | rfl | rfl | rfl | rfl | rfl) <;> omega
      · rintro k (rfl | rfl | rfl | rfl | rfl | rfl) <;> omega
      · rintro k (rfl | rfl | rfl | rfl | rfl | rfl) hk
        · omega
        · omega
        · omega
        · exact ⟨_, hbf, fun cs fz e => by cases e⟩
        · exact ⟨_, hbl, fun cs fz e => by cases e⟩
        · exact ⟨_, dd, fun cs fz e => by cases e⟩
    obtain ⟨L, hLL⟩ : ∃ L, toldL x M bsn = L := ⟨_, rfl⟩
    have hlen : L.length = 32 := by rw [← hLL]; exact HL.out
    have hgc := HGC.out
    rw [hLL] at hgc
    have hnat : ((q : Int) - 4).toNat = q - 4 := by omega
    have hseq := taken_seq 8 (by decide) (zs := L) (cs := cur) (off := 0) (from_ := (q : Int) - 4) (by omega) (by omega) (by omega) (show B2 ≠ g by omega) (show L2 ≠ g by omega) (fun k hk => by rw [Nat.zero_add]; exact hgc k (by omega)) hbf (by rw [hlen]; exact hbl) dg
    rw [hnat, hlen] at hseq
    have hI0 : CutI W w7 bf w5.heap.size (fun k => k = bg ∨ k = br ∨ k = bx ∨ k = B2 ∨ k = L2 ∨ k = D) (f1 ++ []) w7 := by
      rw [List.append_nil]
      exact ⟨⟨_, bblk hB7 HV6.out, ownsRow_blockB HR6.out (fun k e => hB7.block k (by
        rcases HR6.out.2 with ⟨e2, _⟩ | ⟨g', c, cur', e2, _, hh, _⟩
        · rw [e2] at e; cases e
        · rw [e2] at e; cases e; exact blk_lt hh))⟩, bt HI6.out.below hB7, fun k _ => rfl⟩
    have HK2 := Lib.hid kok
    have HSQ2 := Lib.hid hseq
    have HI2 := Lib.hid hI0
    have HKB2 : Hid (∀ k, (k = g ∨ k = B2 ∨ k = L2) → k < w7.heap.size) := Lib.hid (by rintro k (rfl | rfl | rfl) <;> omega)
    have HG7 : Hid (g < w7.heap.size) := Lib.hid (by omega)
    have HLL := Lib.hid hLL
    have HLEN := Lib.hid hlen
    have HGC2 := Lib.hid hgc
    have C6 := Lib.hid d6
    have C7 := Lib.hid d7
    have C10 := Lib.hid d10
    have HDD := Lib.hid dd
    have HB7 := Lib.hid hB7
    clear kok hseq hI0 hLL hlen hgc hnat d6 d7 d10 dd dg hB7 hbx hgx hx5 hf5 hdl h67 hbf hbl hBf0 hBl0 hBfl hBll C6' C7' C10' HD6 HI6 HV6 HR6 HGC HL hc
    go_wp2_with fail
    refine (wpIn_wide (n := 9)).1 ?_
    refine wpIn_rangeW (b := g) (by omega) (gf := 90) rfl (fun _ _ => by rfl) HSQ2.out HG7.out KeepB.t (KeepB.b HKB2.out) (Below.refl _ _) (fun _ => rfl)
      (fun pre W' => CutI W w7 bf w5.heap.size (fun k => k = bg ∨ k = br ∨ k = bx ∨ k = B2 ∨ k = L2 ∨ k = D) (f1 ++ pre) W' ∧ w7.heap.size ≤ W'.heap.size) (CutI.own HK2.out (f := fun pre => f1 ++ pre)) (fun pre k v W1 h => ⟨h.1.turn HK2.out k v, by simpa [World.setCell] using h.2⟩) ⟨HI2.out, Nat.le_refl _⟩ ?a2 ?assign ?body ?done
    case assign =>
      intro l x W K hK
      gi_wp2
      exact hK
    case body =>
      rintro l1 pre z W1 ⟨hI, hz⟩ hlen
      obtain ⟨v, hv, hrow⟩ := hI.row
      obtain ⟨i0, hi, hz0, hz1, hz2⟩ := infoU16x
      have hc := hv.cell
      have hl4 : pre.length < 32 := hlen
      have hl36 : (f1 ++ pre).length < 36 := by rw [List.length_append]; omega
      have hl2 : (f1 ++ pre).length + 1 ≤ maxLen := by unfold maxLen; omega
      have HI := Lib.hid hI
      obtain ⟨fp, hfp⟩ : ∃ fp, f1 ++ pre = fp := ⟨_, rfl⟩
      have hfp2 : f1 ++ (pre ++ [z]) = fp ++ [z] := by rw [← hfp, List.append_assoc]
      have HFP2 := Lib.hid hfp2
      rw [hfp] at HI hrow hl2 hl36
      have hr5 := HK2.out.r5
      clear hI hlen hfp hfp2 HDL HGX HBX HBX5 HK HG7 HB7
      gi_wp2_with (first | (gi_at_builtin; refine wpListIn_append_at _ rfl _ _ 68 rfl w5.heap.size 57 i0 (.int .u16 0) 1 2 Tryz.underlying68 hi hz0 hz1 hz2 rfl (by decide) _ _ _ rfl (hrow.alloc _) ⟨W1.heap.size, 0, none⟩ 1 1 [.int .u16 z] rfl rfl (World.news_of_block (hp_new _ _ rfl)) (by simp [Value.oneCell']) hl2 (by omega) (by simp; omega) ?_; intro v' w1 hown' hgrow _ _; obtain ⟨g', cap', rfl⟩ := ownsRow_succ hown'; obtain ⟨hv1, hpost⟩ := CutI.app HK2.out HI.out hz hv hrow hown' hgrow; have hc1 := hv1.cell; have hf1 := hv1.frozen) | gi_in)
      refine ⟨hpost.out.1, ?_, ?_⟩
      · rintro k (rfl | rfl | rfl)
        · exact hpost.out.2.1 _ (.inl rfl)
        · exact hpost.out.2.1 _ (.inr (.inr (.inr (.inr (.inl rfl)))))
        · exact hpost.out.2.1 _ (.inr (.inr (.inr (.inr (.inr (.inl rfl))))))
      · show CutI _ _ _ _ _ (f1 ++ (pre ++ [z])) _ ∧ _
        rw [HFP2.out]
        exact hpost.out.2.2
    case done =>
      rintro D2 xs W8 hD2 rfl ⟨hI, hz⟩ ⟨o, ho, hzd⟩ hD8
      obtain ⟨v, hv, hrow⟩ := hI.row
      have hLL := HLL.out
      have hlen := HLEN.out
      have hsl : SlI .u16 W8 (.slice (some ⟨g, 0, none⟩) 32 cap) (cutL L (q - 4)) := by
        refine ⟨⟨_, cap, by rw [cutL_length, hlen], fun _ => ⟨g, 0, rfl, blk_lt ho, fun k hk => ?_⟩⟩, cutL_wf (by rw [← hLL]; exact toldL_wf x M bsn) _⟩
        rw [cutL_length, hlen] at hk
        obtain ⟨c, rfl, hc⟩ := hzd
        rw [cl_of ho, hc, cutL_get]
        by_cases e : k < q - 4
        · rw [if_neg (by omega), if_pos e, Nat.zero_add]; exact HGC2.out k hk
        · rw [if_pos (by omega), if_neg e]
      generalize hf2 : nz (L.drop (q - 4)) = f2 at *
      have hl2 : f2.length ≤ 32 := by
        rw [← hf2, nz]
        refine Nat.le_trans (List.length_filter_le _ _) ?_
        rw [List.length_drop]
        omega
      have hfn : x.n = 0 → f2 = [] := fun h0 => by
        rw [← hf2, ← hLL, toldL, if_pos h0, List.drop_replicate, nz_rep]
      have hcf : cutF x M bsn q = f1 ++ f2 ++ (if x.n ≠ 0 ∧ q ≤ 4 then [x.n] else []) := by rw [cutF, HF1.out, hLL, hf2]
      have hcm : cutM x M bsn q = if x.n ≠ 0 ∧ q ≤ 4 then M else if f2 = [] then M else pins bsn (tellB (cutL L (q - 4))) M := by rw [cutM, hLL, hf2]
      obtain ⟨n2, hn2⟩ : ∃ n2, (f1 ++ f2).length = n2 := ⟨_, rfl⟩
      have hn2' : n2 = f1.length + f2.length := by rw [← hn2, List.length_append]
      rw [hn2] at hrow
      have hn36 : n2 ≤ 36 := by omega
      have HN2' := Lib.hid hn2'
      obtain ⟨ao, cp, rfl⟩ : ∃ ao cp, v = .slice ao n2 cp := by
        rcases hrow.2 with ⟨rfl, h0⟩ | ⟨g', c, cur, rfl, _⟩
        · exact ⟨_, _, by rw [h0]⟩
        · exact ⟨_, _, rfl⟩
      have c6 := (hI.same bg (.inl rfl)).trans C6.out
      have c10 := (hI.same br (.inr (.inl rfl))).trans C10.out
      have c7 := (hI.same bx (.inr (.inr (.inl rfl)))).trans C7.out
      have cd := (hI.same D (.inr (.inr (.inr (.inr (.inr rfl)))))).trans HDD.out
      have hbx := HBX.out
      have hgx := HGX.out
      have hx5 := HBX5.out
      have hf5 := HK.out.f5
      have hdl := HDL.out
      have hr5 := HK2.out.r5
      have h67 := HB7.out.size
      have hd2l := blk_lt hD8
      have hT8 := HH.out.take hI.below
      have HT8 := Lib.hid hT8
      have HSL := Lib.hid hsl
      have HCF := Lib.hid hcf
      have HCM := Lib.hid hcm
      have HN2 := Lib.hid hn2
      have HFN := Lib.hid hfn
      have HF2 := Lib.hid hf2
      have HI8 := Lib.hid hI
      have HV8 := Lib.hid hv
      have HR8 := Lib.hid hrow
      have C6' := Lib.hid c6
      have C7' := Lib.hid c7
      have C10' := Lib.hid c10
      have CD' := Lib.hid cd
      have HD8 := Lib.hid hD8
      have HLT : Hid ((W.heap.size = bg ∧ bg + 1 = bx ∧ bx + 1 = br ∧ br + 1 = bf) ∧ (bf < g ∧ g < w5.heap.size) ∧ (w5.heap.size ≤ D ∧ D < w7.heap.size) ∧ (w7.heap.size ≤ D2 ∧ D2 < W8.heap.size)) := Lib.hid ⟨hbx, by omega, by omega, hD2, hd2l⟩
      have hc := hv.cell
      have q0 := cl_of c7 0
      have q1 := cl_of c7 1
      have q2 := cl_of c7 2
      have q3 := cl_of c7 3
      have q4 := cl_of c7 4
      have q5 := cl_of c7 5
      have q6 := cl_of c7 6
      have q7 : W8.cell? ⟨bx, 7, none⟩ = some (.int .u16 x.n) := cl_of c7 7
      have fx7 := fz_of c7 7
      have ff := hv.frozen
      have fr10 := fz_of c10
      have hb1 : bx ≠ bf := by omega
      have hb2 : bf ≠ bx := by omega
      have hb3 : br ≠ bf := by omega
      have hb4 : bf ≠ br := by omega
      have hb5 : bx ≠ br := by omega
      have hb6 : br ≠ bx := by omega
      clear hI hz ho hzd hD8 hLL hlen hsl hf2 hfn hcf hcm hn2 hn2' h67 c6 c7 c10 cd hbx hgx hx5 hf5 hdl hr5 hd2l hT8 hD2 C6 C7 C10 HSQ2 HI2 HKB2 HG7 HLEN HGC2 HDD HB7 HBX HGX HBX5 HK HDL HF1 hv hrow
      unfold Ino.cutd at q0 q1 q2 q3 q4 q5 q6
      simp only [ic] at q0 q1 q2 q3 q4 q5 q6
      obtain ⟨i0, hi, hz0, hz1, hz2⟩ := infoU16x
      by_cases hn0 : x.n = 0
      · have e5 : (x.n != 0) = false := by simpa using hn0
        have hcut : x.cut q = x.cutd q := by unfold Ino.cut; rw [if_neg (fun h => h.1 hn0)]; rfl
        have hf20 : f2 = [] := HFN.out hn0
        have e7 : decide ((n2 : Int) > (f1.length : Int)) = false := decide_eq_false (by have := HN2'.out; rw [hf20, List.length_nil] at this; omega)
        have e7b : decide (f1.length < n2) = false := decide_eq_false (by have := HN2'.out; rw [hf20, List.length_nil] at this; omega)
        have e7c : ¬ (f1.length < n2) := by have := HN2'.out; rw [hf20, List.length_nil] at this; omega
        have hlt := HLT.out
        have hFK : FK w0 W X (fun k => X k ∨ W.heap.size ≤ k ∧ k < W8.heap.size) jb tb m w5.heap.size D D2 := ⟨HH.out.j.dev.lt, HH.out.j.own, HH.out.xt, HH.out.xm, HH.out.j.dev.below.size, by omega, by omega, by omega, by omega, fun _ h => .inl h, .inr ⟨by omega, by omega⟩, .inr ⟨by omega, by omega⟩⟩
        have hcf : cutF x M bsn q = f1 ++ f2 := by rw [HCF.out, if_neg (fun h => h.1 hn0), List.append_nil]
        have hcm : cutM x M bsn q = M := by rw [HCM.out, if_neg (fun h => h.1 hn0), if_pos hf20]
        have HFS : Hid (FS w0 W X (fun k => X k ∨ W.heap.size ≤ k ∧ k < W8.heap.size) p jb N tb m (cutM x M bsn q) w5.heap.size (.slice ao n2 cp) (cutF x M bsn q).length (u16s (cutF x M bsn q)) D D2 W8) := Lib.hid (by rw [hcf, hcm, HN2.out]; exact ⟨HT8.out, (HH.out.j.dev.kbelow HI8.out.below).less (fun _ h => h.1), HR8.out, CD'.out, HD8.out, fun j e => .inr (by have := row_rx HR8.out j e; omega)⟩)
        have HFK := Lib.hid hFK
        have HLT2 : Hid ((W.heap.size ≤ br ∧ br < w5.heap.size ∧ br < W8.heap.size) ∧ W.heap.size ≤ bf ∧ bf < w5.heap.size ∧ bf < W8.heap.size) := Lib.hid (by omega)
        have hb11 : W8.heap[bx]? = some (.cells (ic (x.cut q)) 61 (0, 0)) := by rw [hcut]; exact C7'.out
        have hr11 := C10'.out
        have hv11 := HV8.out
        clear hcf hcm hFK hlt hf20 HTL HS HXN HK2 HI8 HV8 HR8 C6' CD' HD8 HSL HCF HCM HN2 HFN HF2 HN2' HLT HT8 HLL
        go_wp2_with fail
        obtain ⟨y, hy⟩ : ∃ y, x.cut q = y := ⟨_, rfl⟩
        have HY := Lib.hid hy
        rw [hy] at hb11
        clear hy hcut e7 q0 q1 q2 q3 q4 q5 q6 q7 fx7 ff fr10 hc
        unfold ic at hb11
        have t0 := cl_of hb11 0
        have t1 := cl_of hb11 1
        have t2 := cl_of hb11 2
        have t3 := cl_of hb11 3
        have t4 := cl_of hb11 4
        have t5 := cl_of hb11 5
        have t6 := cl_of hb11 6
        have t7 := cl_of hb11 7
        have r0 := cl_of hr11 0
        have r1 := cl_of hr11 1
        have r2 := cl_of hr11 2
        have r3 := cl_of hr11 3
        have r4 := cl_of hr11 4
        have r5 := cl_of hr11 5
        have r6 := cl_of hr11 6
        have r7 := cl_of hr11 7
        have rz := fz_of hr11
        have tv := hv11.cell
        have tf := hv11.frozen
        have HR11 : Hid (W8.heap[br]? = some (.cells (ic Ino.zero) 61 (0, 0))) := Lib.hid hr11
        have HV11 := Lib.hid hv11
        clear hb11 hr11 hv11
        go_region
        obtain ⟨hr12, hv12⟩ := end_facts HR11.out HV11.out hb3 y (.slice ao n2 cp)
        have hFS12 := HFS.out.last HFK.out HLT2.out.1.1 HLT2.out.1.2.1 (.inr ⟨HLT2.out.1.1, HLT2.out.1.2.2⟩) HLT2.out.2.1 HLT2.out.2.2.1 (.inr ⟨HLT2.out.2.1, HLT2.out.2.2.2⟩) y (.slice ao n2 cp)
        obtain ⟨W12, hW12⟩ : ∃ W12, ((put8 W8 br y).setCell ⟨bf, 0, none⟩ (.slice ao n2 cp)).drew = W12 := ⟨_, rfl⟩
        rw [hW12] at hr12 hv12 hFS12
        unfold put8 at hW12
        rw [hW12]
        have HFS12 := Lib.hid hFS12
        have hDD := HFK.out.d
        have hDD2 := HFK.out.d2
        have hbl := HLT2.out
        have hs13 : ∀ k, k ≠ D → k ≠ D2 → ((W12.putObj D2 (.deferred none)).putObj D (.deferred none)).heap[k]? = W12.heap[k]? := fun k h1 h2 => (World.putObj_heap_other h1).trans (World.putObj_heap_other h2)
        have hr13 := (hs13 br (by omega) (by omega)).trans hr12
        have hv13 : ((W12.putObj D2 (.deferred none)).putObj D (.deferred none)).cell? ⟨bf, 0, none⟩ = some (.slice ao n2 cp) := (World.cell?_of_block (hs13 bf (by omega) (by omega))).trans hv12.cell
        have hres : CutPost2 w0 X p jb N tb m bsn M x q W (.returned (.tuple #[.agg (ic y), .slice ao n2 cp, .int .i64 0])) ((W12.putObj D2 (.deferred none)).putObj D (.deferred none)) := by
          obtain ⟨a1, -, a3⟩ := HFS12.out.fin HFK.out
          exact ⟨_, _, by rw [HY.out], a1, HFK.out.xx, HFS12.out.rx, HFS12.out.finX HFK.out, a3⟩
        have HRES := Lib.hid hres
        unfold ic at hr13 HRES
        have s0 := cl_of hr13 0
        have s1 := cl_of hr13 1
        have s2 := cl_of hr13 2
        have s3 := cl_of hr13 3
        have s4 := cl_of hr13 4
        have s5 := cl_of hr13 5
        have s6 := cl_of hr13 6
        have s7 := cl_of hr13 7
        clear hres hs13 hr12 hv12 hr13 hW12 hDD hDD2 hbl t0 t1 t2 t3 t4 t5 t6 t7 r0 r1 r2 r3 r4 r5 r6 r7 rz tv tf hFS12
        go_wp2
        refine ⟨by simp, .inl ⟨_, _, rfl, run_takeDeferred HFS12.out.d2, by simp, .inl ⟨_, _, rfl, run_takeDeferred (HFS12.out.put1 HFK.out), ?_⟩⟩⟩
        exact ⟨_, (by simp [results, Tryz.results29, go_sem, s0, s1, s2, s3, s4, s5, s6, s7, hv13]), HRES.out⟩
      · have e5 : (x.n != 0) = true := by simpa using hn0
        by_cases hq4 : q ≤ 4
        · have e6 : decide ((q : Int) ≤ 4) = true := decide_eq_true (by omega)
          have hml : n2 + 1 ≤ maxLen := by unfold maxLen; omega
          have hby : (n2 + 1) * 2 ≤ 140737488355328 := by omega
          have hr8 := HR8.out.alloc (Obj.cells #[.int .u16 x.n] 57)
          have hL5 : w5.heap.size ≤ (W8.alloc (Obj.cells #[.int .u16 x.n] 57)).heap.size := by have := HLT.out; simp; omega
          have hone : ∀ u ∈ [Value.int .u16 x.n], u.oneCell' = true := by simp [Value.oneCell']
          have hz8 : w7.heap.size ≤ W8.heap.size := by have := HLT.out; omega
          go_wp2_with (at_builtin; refine wpList_append_own _ rfl _ _ 68 rfl w5.heap.size 57 i0 (.int .u16 0) 1 2 Tryz.underlying68 hi hz0 hz1 hz2 rfl (by decide) (.slice ao n2 cp) n2 (u16s (f1 ++ f2)) rfl hr8 ⟨W8.heap.size, 0, none⟩ 1 1 [.int .u16 x.n] rfl rfl (World.news_of_block (hp_new _ _ rfl)) hone hml hby hL5 ?_; intro v' w9 hown' hgrow _; obtain ⟨g', cap', rfl⟩ := ownsRow_succ hown'; obtain ⟨hv1, hpost⟩ := CutI.app (fs := f1 ++ f2) HK2.out HI8.out hz8 HV8.out (by rw [HN2.out]; exact HR8.out) (by rw [HN2.out]; exact hown') hgrow; have hb9 := (Below.heap_setCell w9 ⟨bf, 0, none⟩ (.slice (some ⟨g', 0, none⟩) (n2 + 1) cap') bx hb1).symm.trans ((hpost.out.2.1 bx (.inr (.inr (.inr (.inl rfl))))).trans C7'.out); have hr9 := (Below.heap_setCell w9 ⟨bf, 0, none⟩ (.slice (some ⟨g', 0, none⟩) (n2 + 1) cap') br hb3).symm.trans ((hpost.out.2.1 br (.inr (.inr (.inl rfl)))).trans C10'.out); have hc1 := hv1.cell; have hf1 := hv1.frozen; have p7 : w9.cell? ⟨bx, 7, none⟩ = some (.int .u16 x.n) := cl_of hb9 7; have pz := fz_of hb9)
          have HB9 := Lib.hid hb9
          have HR9 := Lib.hid hr9
          have HP9 := Lib.hid hpost.out.2.2.1
          have HB10 := Lib.hid hpost.out.1
          have hb10 := hpost.out.2.1
          obtain ⟨W10, hW10⟩ : ∃ W10, w9.setCell ⟨bf, 0, none⟩ (.slice (some ⟨g', 0, none⟩) (n2 + 1) cap') = W10 := ⟨_, rfl⟩
          rw [hW10] at hb10 HP9 HB10
          rw [hW10]
          have c7 := (hb10 bx (.inr (.inr (.inr (.inl rfl))))).trans C7'.out
          have c10 := (hb10 br (.inr (.inr (.inl rfl)))).trans C10'.out
          obtain ⟨W11, hW11⟩ : ∃ W11, W10.setCell ⟨bx, 7, none⟩ (.int .u16 0) = W11 := ⟨_, rfl⟩
          rw [hW11]
          have hcut : x.cut q = { x.cutd q with n := 0 } := by unfold Ino.cut; rw [if_pos ⟨hn0, hq4⟩]
          have hb11 : W11.heap[bx]? = some (.cells (ic (x.cut q)) 61 (0, 0)) := by rw [← hW11, blk_here c7 7, hcut]; rfl
          have hr11 : W11.heap[br]? = some (.cells (ic Ino.zero) 61 (0, 0)) := by rw [← hW11]; exact (Below.heap_setCell W10 ⟨bx, 7, none⟩ _ br hb6).trans c10
          obtain ⟨v11, hv10, hrow10⟩ := HP9.out.row
          obtain ⟨ao11, ln11, cp11, rfl⟩ : ∃ a l c, v11 = .slice a l c := by
            rcases hrow10.2 with ⟨rfl, _⟩ | ⟨g3, c3, cur3, rfl, _⟩
            · exact ⟨_, _, _, rfl⟩
            · exact ⟨_, _, _, rfl⟩
          have hlt := HLT.out
          have hs10 := HB10.out.size
          have hFK : FK w0 W X (fun k => X k ∨ W.heap.size ≤ k ∧ k < W10.heap.size) jb tb m w5.heap.size D D2 := ⟨HH.out.j.dev.lt, HH.out.j.own, HH.out.xt, HH.out.xm, HH.out.j.dev.below.size, by omega, by omega, by omega, by omega, fun _ h => .inl h, .inr ⟨by omega, by omega⟩, .inr ⟨by omega, by omega⟩⟩
          have hFS10 : FS w0 W X (fun k => X k ∨ W.heap.size ≤ k ∧ k < W10.heap.size) p jb N tb m M w5.heap.size (.slice ao11 ln11 cp11) (f1 ++ f2 ++ [x.n]).length (u16s (f1 ++ f2 ++ [x.n])) D D2 W10 := ⟨HH.out.take HP9.out.below, (HH.out.j.dev.kbelow HP9.out.below).less (fun _ h => h.1), hrow10, HB10.out.same _ _ CD'.out rfl, HB10.out.same _ _ HD8.out rfl, fun j e => .inr (by have := row_rx hrow10 j e; omega)⟩
          have hFS11 : FS w0 W X (fun k => X k ∨ W.heap.size ≤ k ∧ k < W10.heap.size) p jb N tb m M w5.heap.size (.slice ao11 ln11 cp11) (f1 ++ f2 ++ [x.n]).length (u16s (f1 ++ f2 ++ [x.n])) D D2 W11 := by rw [← hW11]; exact hFS10.set hFK (by omega) (by omega) (.inr ⟨by omega, by omega⟩) 7 _
          have hv11 : Boxed W11 bf 68 (.slice ao11 ln11 cp11) := by rw [← hW11]; exact (Below.heap_setCell W10 ⟨bx, 7, none⟩ _ bf hb2).trans hv10
          have hcf : cutF x M bsn q = f1 ++ f2 ++ [x.n] := by rw [HCF.out, if_pos ⟨hn0, hq4⟩]
          have hcm : cutM x M bsn q = M := by rw [HCM.out, if_pos ⟨hn0, hq4⟩]
          have HFK := Lib.hid hFK
          have HFS : Hid (FS w0 W X (fun k => X k ∨ W.heap.size ≤ k ∧ k < W10.heap.size) p jb N tb m (cutM x M bsn q) w5.heap.size (.slice ao11 ln11 cp11) (cutF x M bsn q).length (u16s (cutF x M bsn q)) D D2 W11) := Lib.hid (by rw [hcf, hcm]; exact hFS11)
          have hs10' := hs10
          have HLT2 : Hid ((W.heap.size ≤ br ∧ br < w5.heap.size ∧ br < W10.heap.size) ∧ W.heap.size ≤ bf ∧ bf < w5.heap.size ∧ bf < W10.heap.size) := Lib.hid (by omega)
          have hyy : ∃ y, x.cut q = y := ⟨_, rfl⟩
          obtain ⟨y, hy⟩ := hyy
          have HY := Lib.hid hy
          rw [hy] at hb11
          clear hy
          clear hcf hcm hs10' hFK hFS10 hFS11 hrow10 hv10 hs10 hlt hcut hW11 c7 c10 hb10 hW10 hb9 hr9 hpost hown' hgrow hv1 hc1 hf1 p7 pz hL5 hone hr8 hz8 hml hby q0 q1 q2 q3 q4 q5 q6 q7 fx7 ff fr10 hc HTL HS HXN HK2 HI8 HV8 HR8 C6' C7' C10' CD' HD8 HSL HCF HCM HN2 HFN HF2 HN2' HB9 HR9 HB10 HP9 HLT HT8 HLL
          unfold ic at hb11 hr11
          unfold Ino.zero at hr11
          have t0 := cl_of hb11 0
          have t1 := cl_of hb11 1
          have t2 := cl_of hb11 2
          have t3 := cl_of hb11 3
          have t4 := cl_of hb11 4
          have t5 := cl_of hb11 5
          have t6 := cl_of hb11 6
          have t7 := cl_of hb11 7
          have r0 := cl_of hr11 0
          have r1 := cl_of hr11 1
          have r2 := cl_of hr11 2
          have r3 := cl_of hr11 3
          have r4 := cl_of hr11 4
          have r5 := cl_of hr11 5
          have r6 := cl_of hr11 6
          have r7 := cl_of hr11 7
          have rz := fz_of hr11
          have tv := hv11.cell
          have tf := hv11.frozen
          have HR11 : Hid (W11.heap[br]? = some (.cells (ic Ino.zero) 61 (0, 0))) := Lib.hid hr11
          have HV11 := Lib.hid hv11
          clear hb11 hr11 hv11
          go_region
          obtain ⟨hr12, hv12⟩ := end_facts HR11.out HV11.out hb3 y (.slice ao11 ln11 cp11)
          have hFS12 := HFS.out.last HFK.out HLT2.out.1.1 HLT2.out.1.2.1 (.inr ⟨HLT2.out.1.1, HLT2.out.1.2.2⟩) HLT2.out.2.1 HLT2.out.2.2.1 (.inr ⟨HLT2.out.2.1, HLT2.out.2.2.2⟩) y (.slice ao11 ln11 cp11)
          obtain ⟨W12, hW12⟩ : ∃ W12, ((put8 W11 br y).setCell ⟨bf, 0, none⟩ (.slice ao11 ln11 cp11)).drew = W12 := ⟨_, rfl⟩
          rw [hW12] at hr12 hv12 hFS12
          unfold put8 at hW12
          rw [hW12]
          have HFS12 := Lib.hid hFS12
          have hDD := HFK.out.d
          have hDD2 := HFK.out.d2
          have hbl := HLT2.out
          have hs13 : ∀ k, k ≠ D → k ≠ D2 → ((W12.putObj D2 (.deferred none)).putObj D (.deferred none)).heap[k]? = W12.heap[k]? := fun k h1 h2 => (World.putObj_heap_other h1).trans (World.putObj_heap_other h2)
          have hr13 := (hs13 br (by omega) (by omega)).trans hr12
          have hv13 : ((W12.putObj D2 (.deferred none)).putObj D (.deferred none)).cell? ⟨bf, 0, none⟩ = some (.slice ao11 ln11 cp11) := (World.cell?_of_block (hs13 bf (by omega) (by omega))).trans hv12.cell
          have hres : CutPost2 w0 X p jb N tb m bsn M x q W (.returned (.tuple #[.agg (ic y), .slice ao11 ln11 cp11, .int .i64 0])) ((W12.putObj D2 (.deferred none)).putObj D (.deferred none)) := by
            obtain ⟨a1, -, a3⟩ := HFS12.out.fin HFK.out
            exact ⟨_, _, by rw [HY.out], a1, HFK.out.xx, HFS12.out.rx, HFS12.out.finX HFK.out, a3⟩
          have HRES := Lib.hid hres
          unfold ic at hr13 HRES
          have s0 := cl_of hr13 0
          have s1 := cl_of hr13 1
          have s2 := cl_of hr13 2
          have s3 := cl_of hr13 3
          have s4 := cl_of hr13 4
          have s5 := cl_of hr13 5
          have s6 := cl_of hr13 6
          have s7 := cl_of hr13 7
          clear hres hs13 hr12 hv12 hr13 hW12 hDD hDD2 hbl t0 t1 t2 t3 t4 t5 t6 t7 r0 r1 r2 r3 r4 r5 r6 r7 rz tv tf hFS12
          go_wp2
          refine ⟨by simp, .inl ⟨_, _, rfl, run_takeDeferred HFS12.out.d2, by simp, .inl ⟨_, _, rfl, run_takeDeferred (HFS12.out.put1 HFK.out), ?_⟩⟩⟩
          exact ⟨_, (by simp [results, Tryz.results29, go_sem, s0, s1, s2, s3, s4, s5, s6, s7, hv13]), HRES.out⟩
        · have e6 : decide ((q : Int) ≤ 4) = false := decide_eq_false (by omega)
          by_cases hf20' : f2 = []
          · have hcut : x.cut q = x.cutd q := by unfold Ino.cut; rw [if_neg (fun h => hq4 h.2)]; rfl
            have hf20 : f2 = [] := hf20'
            have e7 : decide ((n2 : Int) > (f1.length : Int)) = false := decide_eq_false (by have := HN2'.out; rw [hf20, List.length_nil] at this; omega)
            have e7b : decide (f1.length < n2) = false := decide_eq_false (by have := HN2'.out; rw [hf20, List.length_nil] at this; omega)
            have e7c : ¬ (f1.length < n2) := by have := HN2'.out; rw [hf20, List.length_nil] at this; omega
            have hlt := HLT.out
            have hFK : FK w0 W X (fun k => X k ∨ W.heap.size ≤ k ∧ k < W8.heap.size) jb tb m w5.heap.size D D2 := ⟨HH.out.j.dev.lt, HH.out.j.own, HH.out.xt, HH.out.xm, HH.out.j.dev.below.size, by omega, by omega, by omega, by omega, fun _ h => .inl h, .inr ⟨by omega, by omega⟩, .inr ⟨by omega, by omega⟩⟩
            have hcf : cutF x M bsn q = f1 ++ f2 := by rw [HCF.out, if_neg (fun h => hq4 h.2), List.append_nil]
            have hcm : cutM x M bsn q = M := by rw [HCM.out, if_neg (fun h => hq4 h.2), if_pos hf20]
            have HFS : Hid (FS w0 W X (fun k => X k ∨ W.heap.size ≤ k ∧ k < W8.heap.size) p jb N tb m (cutM x M bsn q) w5.heap.size (.slice ao n2 cp) (cutF x M bsn q).length (u16s (cutF x M bsn q)) D D2 W8) := Lib.hid (by rw [hcf, hcm, HN2.out]; exact ⟨HT8.out, (HH.out.j.dev.kbelow HI8.out.below).less (fun _ h => h.1), HR8.out, CD'.out, HD8.out, fun j e => .inr (by have := row_rx HR8.out j e; omega)⟩)
            have HFK := Lib.hid hFK
            have HLT2 : Hid ((W.heap.size ≤ br ∧ br < w5.heap.size ∧ br < W8.heap.size) ∧ W.heap.size ≤ bf ∧ bf < w5.heap.size ∧ bf < W8.heap.size) := Lib.hid (by omega)
            have hb11 : W8.heap[bx]? = some (.cells (ic (x.cut q)) 61 (0, 0)) := by rw [hcut]; exact C7'.out
            have hr11 := C10'.out
            have hv11 := HV8.out
            clear hcf hcm hFK hlt hf20 HTL HS HXN HK2 HI8 HV8 HR8 C6' CD' HD8 HSL HCF HCM HN2 HFN HF2 HN2' HLT HT8 HLL
            go_wp2_with fail
            obtain ⟨y, hy⟩ : ∃ y, x.cut q = y := ⟨_, rfl⟩
            have HY := Lib.hid hy
            rw [hy] at hb11
            clear hy hcut e7 q0 q1 q2 q3 q4 q5 q6 q7 fx7 ff fr10 hc
            unfold ic at hb11
            have t0 := cl_of hb11 0
            have t1 := cl_of hb11 1
            have t2 := cl_of hb11 2
            have t3 := cl_of hb11 3
            have t4 := cl_of hb11 4
            have t5 := cl_of hb11 5
            have t6 := cl_of hb11 6
            have t7 := cl_of hb11 7
            have r0 := cl_of hr11 0
            have r1 := cl_of hr11 1
            have r2 := cl_of hr11 2
            have r3 := cl_of hr11 3
            have r4 := cl_of hr11 4
            have r5 := cl_of hr11 5
            have r6 := cl_of hr11 6
            have r7 := cl_of hr11 7
            have rz := fz_of hr11
            have tv := hv11.cell
            have tf := hv11.frozen
            have HR11 : Hid (W8.heap[br]? = some (.cells (ic Ino.zero) 61 (0, 0))) := Lib.hid hr11
            have HV11 := Lib.hid hv11
            clear hb11 hr11 hv11
            go_region
            obtain ⟨hr12, hv12⟩ := end_facts HR11.out HV11.out hb3 y (.slice ao n2 cp)
            have hFS12 := HFS.out.last HFK.out HLT2.out.1.1 HLT2.out.1.2.1 (.inr ⟨HLT2.out.1.1, HLT2.out.1.2.2⟩) HLT2.out.2.1 HLT2.out.2.2.1 (.inr ⟨HLT2.out.2.1, HLT2.out.2.2.2⟩) y (.slice ao n2 cp)
            obtain ⟨W12, hW12⟩ : ∃ W12, ((put8 W8 br y).setCell ⟨bf, 0, none⟩ (.slice ao n2 cp)).drew = W12 := ⟨_, rfl⟩
            rw [hW12] at hr12 hv12 hFS12
            unfold put8 at hW12
            rw [hW12]
            have HFS12 := Lib.hid hFS12
            have hDD := HFK.out.d
            have hDD2 := HFK.out.d2
            have hbl := HLT2.out
            have hs13 : ∀ k, k ≠ D → k ≠ D2 → ((W12.putObj D2 (.deferred none)).putObj D (.deferred none)).heap[k]? = W12.heap[k]? := fun k h1 h2 => (World.putObj_heap_other h1).trans (World.putObj_heap_other h2)
            have hr13 := (hs13 br (by omega) (by omega)).trans hr12
            have hv13 : ((W12.putObj D2 (.deferred none)).putObj D (.deferred none)).cell? ⟨bf, 0, none⟩ = some (.slice ao n2 cp) := (World.cell?_of_block (hs13 bf (by omega) (by omega))).trans hv12.cell
            have hres : CutPost2 w0 X p jb N tb m bsn M x q W (.returned (.tuple #[.agg (ic y), .slice ao n2 cp, .int .i64 0])) ((W12.putObj D2 (.deferred none)).putObj D (.deferred none)) := by
              obtain ⟨a1, -, a3⟩ := HFS12.out.fin HFK.out
              exact ⟨_, _, by rw [HY.out], a1, HFK.out.xx, HFS12.out.rx, HFS12.out.finX HFK.out, a3⟩
            have HRES := Lib.hid hres
            unfold ic at hr13 HRES
            have s0 := cl_of hr13 0
            have s1 := cl_of hr13 1
            have s2 := cl_of hr13 2
            have s3 := cl_of hr13 3
            have s4 := cl_of hr13 4
            have s5 := cl_of hr13 5
            have s6 := cl_of hr13 6
            have s7 := cl_of hr13 7
            clear hres hs13 hr12 hv12 hr13 hW12 hDD hDD2 hbl t0 t1 t2 t3 t4 t5 t6 t7 r0 r1 r2 r3 r4 r5 r6 r7 rz tv tf hFS12
            go_wp2
            refine ⟨by simp, .inl ⟨_, _, rfl, run_takeDeferred HFS12.out.d2, by simp, .inl ⟨_, _, rfl, run_takeDeferred (HFS12.out.put1 HFK.out), ?_⟩⟩⟩
            exact ⟨_, (by simp [results, Tryz.results29, go_sem, s0, s1, s2, s3, s4, s5, s6, s7, hv13]), HRES.out⟩
          · have hf20 := hf20'
            clear hf20'
            have hcut : x.cut q = x.cutd q := by unfold Ino.cut; rw [if_neg (fun h => hq4 h.2)]; rfl
            have e7c : f1.length < n2 := by have := HN2'.out; have : f2.length ≠ 0 := (fun h => hf20 (List.eq_nil_of_length_eq_zero h)); omega
            have e7 : decide ((n2 : Int) > (f1.length : Int)) = true := decide_eq_true (by omega)
            have e7b : decide (f1.length < n2) = true := decide_eq_true e7c
            have hlt := HLT.out
            have hcf : cutF x M bsn q = f1 ++ f2 := by rw [HCF.out, if_neg (fun h => hq4 h.2), List.append_nil]
            have hcm : cutM x M bsn q = pins bsn (tellB (cutL L (q - 4))) M := by rw [HCM.out, if_neg (fun h => hq4 h.2), if_neg hf20]
            have htl := HTL.out W8 _ HT8.out (.slice (some ⟨g, 0, none⟩) 32 cap) (by rw [HLL.out]; exact HSL.out) (by have := HXN.out.1; omega)
            rw [HLL.out, ← hcm] at htl
            have HTL8 := Lib.hid htl
            have HCF' := Lib.hid hcf
            have HCUT := Lib.hid hcut
            have c7 := C7'.out
            have c6 := C6'.out
            unfold ic at c7
            clear hcf hcm htl hcut hlt q0 q1 q2 q3 q4 q5 q6 q7
            obtain ⟨xc, hxc⟩ : ∃ xc, x.cutd q = xc := ⟨_, rfl⟩
            have e5' : (xc.n != 0) = true := by rw [← hxc]; exact e5
            rw [hxc] at c7 HTL8
            have HXC := Lib.hid hxc
            have g0 := cl_of c6 0
            have g1 := cl_of c6 1
            have g2 := cl_of c6 2
            have q0 := cl_of c7 0
            have q1 := cl_of c7 1
            have q2 := cl_of c7 2
            have q3 := cl_of c7 3
            have q4 := cl_of c7 4
            have q5 := cl_of c7 5
            have q6 := cl_of c7 6
            have q7 := cl_of c7 7
            clear hxc c6 c7 e5
            go_wp2_with fail
            refine HTL8.out.mono ?_
            rintro e w9 ⟨rfl, hT9, hK9⟩
            have hlt := HLT.out
            have hmw := HH.out.j.dev.lt _ HH.out.xm
            have hin : ∀ k, W.heap.size ≤ k → k < W8.heap.size → w9.heap[k]? = W8.heap[k]? := fun k h1 h2 => hK9 k (.inr ⟨.inr ⟨h1, h2⟩, by omega⟩)
            have hFK : FK w0 W X (fun k => X k ∨ W.heap.size ≤ k ∧ k < W8.heap.size) jb tb m w5.heap.size D D2 := ⟨HH.out.j.dev.lt, HH.out.j.own, HH.out.xt, HH.out.xm, HH.out.j.dev.below.size, by omega, by omega, by omega, by omega, fun _ h => .inl h, .inr ⟨by omega, by omega⟩, .inr ⟨by omega, by omega⟩⟩
            have HFS : Hid (FS w0 W X (fun k => X k ∨ W.heap.size ≤ k ∧ k < W8.heap.size) p jb N tb m (cutM x M bsn q) w5.heap.size (.slice ao n2 cp) (cutF x M bsn q).length (u16s (cutF x M bsn q)) D D2 w9) := Lib.hid (by
              rw [HCF'.out, HN2.out]
              refine ⟨hT9, Kb.t ((HH.out.j.dev.kbelow HI8.out.below).less (fun _ h => h.1)) (hK9.less (fun k h => ⟨.inl h.1, h.2⟩)), ownsRow_blockB HR8.out (fun k e => ?_), (hin D (by omega) (by omega)).trans CD'.out, (hin D2 (by omega) (by omega)).trans HD8.out, fun j e => .inr (by have := row_rx HR8.out j e; omega)⟩
              rcases HR8.out.2 with ⟨e2, _⟩ | ⟨g3, c3, cur3, e2, h3, hh, _⟩
              · rw [e2] at e; cases e
              · rw [e2] at e
                cases e
                have hgl := blk_lt hh
                exact hin g3 (by omega) hgl)
            have HFK := Lib.hid hFK
            have HLT2 : Hid ((W.heap.size ≤ br ∧ br < w5.heap.size ∧ br < W8.heap.size) ∧ W.heap.size ≤ bf ∧ bf < w5.heap.size ∧ bf < W8.heap.size) := Lib.hid (by omega)
            have hb11 : w9.heap[bx]? = some (.cells (ic (x.cut q)) 61 (0, 0)) := by rw [HCUT.out]; exact (hin bx (by omega) (by omega)).trans C7'.out
            have hr11 := (hin br (by omega) (by omega)).trans C10'.out
            have hv11 : Boxed w9 bf 68 (.slice ao n2 cp) := (hin bf (by omega) (by omega)).trans HV8.out
            clear hT9 hK9 hin hFK hlt hmw HTL HTL8 HS HXN HK2 HI8 HV8 HR8 C6' C7' C10' CD' HD8 HSL HCF HCM HN2 HFN HF2 HN2' HLT HT8 HLL HXC HCUT HCF' g0 g1 g2
            go_wp2_with fail
            obtain ⟨y, hy⟩ : ∃ y, x.cut q = y := ⟨_, rfl⟩
            have HY := Lib.hid hy
            rw [hy] at hb11
            clear hy e7 q0 q1 q2 q3 q4 q5 q6 q7 fx7 ff fr10 hc
            unfold ic at hb11
            have t0 := cl_of hb11 0
            have t1 := cl_of hb11 1
            have t2 := cl_of hb11 2
            have t3 := cl_of hb11 3
            have t4 := cl_of hb11 4
            have t5 := cl_of hb11 5
            have t6 := cl_of hb11 6
            have t7 := cl_of hb11 7
            have r0 := cl_of hr11 0
            have r1 := cl_of hr11 1
            have r2 := cl_of hr11 2
            have r3 := cl_of hr11 3
            have r4 := cl_of hr11 4
            have r5 := cl_of hr11 5
            have r6 := cl_of hr11 6
            have r7 := cl_of hr11 7
            have rz := fz_of hr11
            have tv := hv11.cell
            have tf := hv11.frozen
            have HR11 : Hid (w9.heap[br]? = some (.cells (ic Ino.zero) 61 (0, 0))) := Lib.hid hr11
            have HV11 := Lib.hid hv11
            clear hb11 hr11 hv11
            go_region
            obtain ⟨hr12, hv12⟩ := end_facts HR11.out HV11.out hb3 y (.slice ao n2 cp)
            have hFS12 := HFS.out.last HFK.out HLT2.out.1.1 HLT2.out.1.2.1 (.inr ⟨HLT2.out.1.1, HLT2.out.1.2.2⟩) HLT2.out.2.1 HLT2.out.2.2.1 (.inr ⟨HLT2.out.2.1, HLT2.out.2.2.2⟩) y (.slice ao n2 cp)
            obtain ⟨W12, hW12⟩ : ∃ W12, ((put8 w9 br y).setCell ⟨bf, 0, none⟩ (.slice ao n2 cp)).drew = W12 := ⟨_, rfl⟩
            rw [hW12] at hr12 hv12 hFS12
            unfold put8 at hW12
            rw [hW12]
            have HFS12 := Lib.hid hFS12
            have hDD := HFK.out.d
            have hDD2 := HFK.out.d2
            have hbl := HLT2.out
            have hs13 : ∀ k, k ≠ D → k ≠ D2 → ((W12.putObj D2 (.deferred none)).putObj D (.deferred none)).heap[k]? = W12.heap[k]? := fun k h1 h2 => (World.putObj_heap_other h1).trans (World.putObj_heap_other h2)
            have hr13 := (hs13 br (by omega) (by omega)).trans hr12
            have hv13 : ((W12.putObj D2 (.deferred none)).putObj D (.deferred none)).cell? ⟨bf, 0, none⟩ = some (.slice ao n2 cp) := (World.cell?_of_block (hs13 bf (by omega) (by omega))).trans hv12.cell
            have hres : CutPost2 w0 X p jb N tb m bsn M x q W (.returned (.tuple #[.agg (ic y), .slice ao n2 cp, .int .i64 0])) ((W12.putObj D2 (.deferred none)).putObj D (.deferred none)) := by
              obtain ⟨a1, -, a3⟩ := HFS12.out.fin HFK.out
              exact ⟨_, _, by rw [HY.out], a1, HFK.out.xx, HFS12.out.rx, HFS12.out.finX HFK.out, a3⟩
            have HRES := Lib.hid hres
            unfold ic at hr13 HRES
            have s0 := cl_of hr13 0
            have s1 := cl_of hr13 1
            have s2 := cl_of hr13 2
            have s3 := cl_of hr13 3
            have s4 := cl_of hr13 4
            have s5 := cl_of hr13 5
            have s6 := cl_of hr13 6
            have s7 := cl_of hr13 7
            clear hres hs13 hr12 hv12 hr13 hW12 hDD hDD2 hbl t0 t1 t2 t3 t4 t5 t6 t7 r0 r1 r2 r3 r4 r5 r6 r7 rz tv tf hFS12
            go_wp2
            refine ⟨by simp, .inl ⟨_, _, rfl, run_takeDeferred HFS12.out.d2, by simp, .inl ⟨_, _, rfl, run_takeDeferred (HFS12.out.put1 HFK.out), ?_⟩⟩⟩
            exact ⟨_, (by simp [results, Tryz.results29, go_sem, s0, s1, s2, s3, s4, s5, s6, s7, hv13]), HRES.out⟩
theorem bcut_any (h : TJ w0 X p jb N 0 1 40 0 0 (newS N) tb m M false W) (hg : GeoN i b j N) (hm : MayB i b j x 0) (hx : x.Wf) (hs : Sz M) (hb : x.n ≠ 0 → (bsn : Int) = fr i b j 5 + x.n - 1) (q : Nat) (hq : q ≤ 36) (hfit : (pget bsn M).isSome = true ∨ M.length < 37) :
    Calls Tryz.prog 29 #[.pointer (some ⟨tb, 0, none⟩), gv i b j, .agg (ic x), .int .i64 q] W (CutPost w0 X p jb N tb m bsn M x q W) :=
  (bcut_any2 h hg hm hx hs hb q hq hfit).mono (fun _ _ ⟨v, _, e1, e2, e3, _, e5, e6⟩ => ⟨v, e1, e2, e5.less e3 h.j.own h.xt h.xm, e6⟩)
end
end Go.Proofs.YtjjphcnoegaimaaGreat
