/- Package bmap: what Get, Set, Begin, Cut answer in all cases, as plain functions. -/
import Derived.Test.YtjjphcnoegaimaaGreatHD
import Derived.Test.YtjjphcnoegaimaaGreatHG
namespace Go.Proofs.YtjjphcnoegaimaaGreat
open Go.RowKit Go.Shelf Go.Maps
set_option maxRecDepth 20000
set_option linter.unusedVariables false
set_option linter.unusedSimpArgs false

/-- The sector of an inode's indirect block. -/
def bsI (i b j : Int) (x : Ino) : Nat := (fr i b j 5 + x.n - 1).toNat
theorem bsI_eq {i b j : Int} {x : Ino} (hg : Mays i b j) (hx : x.Wf) (hn : x.n ≠ 0) : (bsI i b j x : Int) = fr i b j 5 + x.n - 1 := by
  have h5 := fr_bd hg (show 5 ≤ 6 by decide)
  have h0 := hx.n
  unfold bsI
  omega
/-- Does one more sector fit? -/
def fits (n : Nat) (M : Wl) : Prop := (pget n M).isSome = true ∨ M.length < 37
/-- What may have been written. -/
structure Mo (M : Wl) : Prop where
  sz : Sz M
  len : M.length ≤ 37
  up : Rising M
theorem Mo.nil : Mo [] := ⟨fun x h => (by cases h), by decide, List.Pairwise.nil⟩
theorem Mo.put {M : Wl} (h : Mo M) (n : Nat) {c : ByteArray} (hc : c.size = 64) (hf : fits n M) : Mo (pins n c M) := by
  refine ⟨h.sz.put _ hc, ?_, pins_rising _ _ h.up⟩
  rw [pins_length _ _ h.up]
  have := h.len
  split
  · omega
  · rename_i hn
    rcases hf with hf | hf
    · exact absurd hf hn
    · omega
theorem Mo.rput {M : Wl} (h : Mo M) (n : Nat) {c : ByteArray} (hc : c.size = 64) : Mo (rput n c M 37) := by
  unfold Go.Proofs.YtjjphcnoegaimaaGreat.rput
  split
  · rename_i hf; exact h.put n hc hf
  · exact h
section
open Classical
/-- Get: the block, what went wrong. -/
noncomputable def getA (i b j : Int) (x : Ino) (M : Wl) (page : Int) : Int × Int :=
  if MayB i b j x 0 ∧ 0 ≤ page ∧ page < 36 then (pg x M (bsI i b j x) page.toNat, 0) else (0, 2)
/-- Set: the inode, what went wrong, what is written then. -/
noncomputable def setA (i b j : Int) (x : Ino) (M : Wl) (page v : Int) : Ino × Int × Wl :=
  if MayB i b j x v ∧ 0 ≤ page ∧ page < 36 then
    if page < 4 then (x.setd page.toNat v, 0, M)
    else if x.n = 0 then (Ino.zero, 3, M)
    else if fits (bsI i b j x) M then (x, 0, setM x M (bsI i b j x) page.toNat v)
    else (Ino.zero, 4, M)
  else (Ino.zero, 2, M)
/-- Begin. -/
noncomputable def beginA (i b j : Int) (x : Ino) (M : Wl) (v : Int) : Ino × Int × Wl :=
  if MayB i b j x v ∧ v ≠ 0 ∧ x.n = 0 then
    if fits (bsI i b j (x.setn v)) M then (x.setn v, 0, pins (bsI i b j (x.setn v)) (tellB []) M)
    else (Ino.zero, 4, M)
  else (Ino.zero, 2, M)
/-- Must a cut tell again? -/
def cutT (x : Ino) (M : Wl) (bs q : Nat) : Prop := 4 < q ∧ x.n ≠ 0 ∧ nz ((toldL x M bs).drop (q - 4)) ≠ []
/-- Cut: the inode, the blocks, what went wrong, what is written then. -/
noncomputable def cutA (i b j : Int) (x : Ino) (M : Wl) (page : Int) : Ino × List Int × Int × Wl :=
  if MayB i b j x 0 ∧ 0 ≤ page ∧ page ≤ 36 then
    if cutT x M (bsI i b j x) page.toNat ∧ ¬ fits (bsI i b j x) M then (Ino.zero, [], 4, M)
    else (x.cut page.toNat, cutF x M (bsI i b j x) page.toNat, 0, cutM x M (bsI i b j x) page.toNat)
  else (Ino.zero, [], 2, M)
end
theorem inoZero_wf : Ino.zero.Wf := by constructor <;> decide
section
variable {i b j v page : Int} {x : Ino} {M : Wl}
theorem setA_ok (hx : x.Wf) (hM : Mo M) (h0 : 0 ≤ v) (h1 : v < 65536) : (setA i b j x M page v).1.Wf ∧ Mo (setA i b j x M page v).2.2 ∧ 0 ≤ (setA i b j x M page v).2.1 ∧ (setA i b j x M page v).2.1 ≤ 4 := by
  unfold setA
  split
  · split
    · exact ⟨Ino.setd_wf hx _ h0 h1, hM, by simp, by simp⟩
    · split
      · exact ⟨inoZero_wf, hM, by simp, by simp⟩
      · split
        · rename_i hf
          exact ⟨hx, hM.put _ (tellB_size _ (by rw [List.length_set, toldL_length x hM.sz]; decide)) hf, by simp, by simp⟩
        · exact ⟨inoZero_wf, hM, by simp, by simp⟩
  · exact ⟨inoZero_wf, hM, by simp, by simp⟩
theorem beginA_ok (hx : x.Wf) (hM : Mo M) (h0 : 0 ≤ v) (h1 : v < 65536) : (beginA i b j x M v).1.Wf ∧ Mo (beginA i b j x M v).2.2 ∧ 0 ≤ (beginA i b j x M v).2.1 ∧ (beginA i b j x M v).2.1 ≤ 4 := by
  unfold beginA
  split
  · split
    · rename_i hf
      exact ⟨Ino.setn_wf hx h0 h1, hM.put _ (tellB_size [] (by decide)) hf, by simp, by simp⟩
    · exact ⟨inoZero_wf, hM, by simp, by simp⟩
  · exact ⟨inoZero_wf, hM, by simp, by simp⟩
theorem cutA_ok (hx : x.Wf) (hM : Mo M) : (cutA i b j x M page).1.Wf ∧ Mo (cutA i b j x M page).2.2.2 ∧ 0 ≤ (cutA i b j x M page).2.2.1 ∧ (cutA i b j x M page).2.2.1 ≤ 4 := by
  unfold cutA
  split
  · split
    · exact ⟨inoZero_wf, hM, by simp, by simp⟩
    · rename_i hn
      refine ⟨Ino.cut_wf hx _, ?_, by simp, by simp⟩
      unfold cutM
      split
      · exact hM
      · split
        · exact hM
        · rename_i h1 h2
          by_cases hn0 : x.n = 0
          · exact absurd (by rw [toldL, if_pos hn0, List.drop_replicate, nz_rep]) h2
          · exact hM.put _ (tellB_size _ (by rw [cutL_length, toldL_length x hM.sz]; decide)) (Classical.byContradiction fun hf => hn ⟨⟨by omega, hn0, h2⟩, hf⟩)
  · exact ⟨inoZero_wf, hM, by simp, by simp⟩
theorem cutA_len (hx : x.Wf) (hM : Mo M) : (cutA i b j x M page).2.1.length ≤ 37 := by
  unfold cutA
  split
  · split
    · simp
    · show (cutF x M (bsI i b j x) page.toNat).length ≤ 37
      unfold cutF
      rw [List.length_append, List.length_append]
      have h1 : (nz (x.ds4.drop page.toNat)).length ≤ 4 := by
        rw [nz]
        refine Nat.le_trans (List.length_filter_le _ _) ?_
        rw [List.length_drop]
        show 4 - _ ≤ 4
        omega
      have h2 : (nz ((toldL x M (bsI i b j x)).drop (page.toNat - 4))).length ≤ 32 := by
        rw [nz]
        refine Nat.le_trans (List.length_filter_le _ _) ?_
        rw [List.length_drop, toldL_length x hM.sz]
        omega
      have h3 : (if x.n ≠ 0 ∧ page.toNat ≤ 4 then [x.n] else []).length ≤ 1 := by split <;> simp
      omega
  · simp
end
end Go.Proofs.YtjjphcnoegaimaaGreat
