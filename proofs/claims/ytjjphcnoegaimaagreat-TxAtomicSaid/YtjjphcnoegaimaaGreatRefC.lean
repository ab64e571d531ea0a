/- Sectors' texts behind a transaction; lunetteref08's Commit. -/
import Derived.Test.YtjjphcnoegaimaaGreatRefT
import Derived.Test.YtjjphcnoegaimaaGreatGP
namespace Go.Proofs.YtjjphcnoegaimaaGreat
open Go.RowKit Go.Shelf Go.Maps
set_option maxRecDepth 20000
set_option linter.unusedVariables false

section
variable {w0 w W W' W1 : World} {X : Nat → Prop} {L : List ByteArray} {v v' : Value} {wr w1 : World} {rb mx : Nat}
/-- Sectors' texts behind a transaction. -/
def laidL (S : List ByteArray) (l : Puts) : List ByteArray := l.foldl (fun S x => S.set x.1 x.2) S
theorem laidL_length (l : Puts) : ∀ S, (laidL S l).length = S.length := by
  induction l with
  | nil => intro S; rfl
  | cons x l ih => intro S; rw [laidL, List.foldl_cons, ← laidL, ih, List.length_set]
theorem laidL_get (l : Puts) : ∀ (S : List ByteArray) (f : Nat → ByteArray), (∀ x ∈ l, x.1 < S.length) → ∀ i, i < S.length → S.getD i ByteArray.empty = f i → (∀ j, j < S.length → S.getD j ByteArray.empty = f j) → (laidL S l).getD i ByteArray.empty = laid f l i := by
  induction l with
  | nil => intro S f _ i _ h _; exact h
  | cons x l ih =>
    intro S f hx i hi h hall
    rw [laidL, List.foldl_cons, ← laidL, laid_cons]
    have hset : ∀ j, j < (S.set x.1 x.2).length → (S.set x.1 x.2).getD j ByteArray.empty = (fun i => if i = x.1 then x.2 else f i) j := by
      intro j hj
      rw [List.length_set] at hj
      show _ = if j = x.1 then x.2 else f j
      by_cases e : j = x.1
      · subst e
        rw [if_pos rfl, List.getD_eq_getElem?_getD, List.getElem?_set_self hj]
        rfl
      · rw [if_neg e, List.getD_eq_getElem?_getD, List.getElem?_set_ne (fun y => e y.symm), ← List.getD_eq_getElem?_getD]
        exact hall j hj
    exact ih _ _ (fun y hy => by rw [List.length_set]; exact hx y (by simp [hy])) i (by rw [List.length_set]; exact hi) (hset i (by rw [List.length_set]; exact hi)) hset
theorem laidL_snoc (S : List ByteArray) (l : Puts) (k : Nat) (h : k < l.length) : laidL S (l.take (k + 1)) = (laidL S (l.take k)).set l[k].1 l[k].2 := by
  rw [List.take_succ_eq_append_getElem h, laidL, List.foldl_append]
  rfl
structure LdI (W : World) (L : List ByteArray) (g cap : Nat) (wr : World) : Prop where
  row : wr.ownsRow 0 9 1 (.slice (some ⟨g, 0, none⟩) L.length cap) L.length (sv L)
  ge : W.heap.size ≤ g
  below : Below W.heap.size W wr
theorem LdI.drew {g cap : Nat} (h : LdI W L g cap wr) : LdI W L g cap wr.drew := ⟨h.row, h.ge, h.below.drew⟩
theorem sv_set (L : List ByteArray) (i : Nat) (b : ByteArray) : (sv L).set i (.string b) = sv (L.set i b) := by simp [sv, List.map_set]
theorem LdI.set {g cap : Nat} (h : LdI W L g cap wr) (i : Nat) (b : ByteArray) : LdI W (L.set i b) g cap (wr.setCell ⟨g, i, none⟩ (.string b)) := by
  refine ⟨?_, h.ge, h.below.setCell h.ge _⟩
  have := ownsRow_set h.row i (.string b)
  rw [sv_set] at this
  rw [List.length_set]
  exact this
theorem LdI.fz {g cap : Nat} (h : LdI W L g cap wr) (i : Nat) (hi : i < L.length) : wr.frozen? ⟨g, i, none⟩ = false ∧ ∃ u, wr.cell? ⟨g, i, none⟩ = some u := by
  obtain ⟨cur, hb⟩ := ownsRow_type h.row rfl
  exact ⟨fz_of hb i, _, ownsRow_cell h.row rfl (by simp [sv, hi] : (sv L)[i]? = some (.string L[i]))⟩


set_option maxHeartbeats 4000000 in
theorem rcommit_any {Y : Nat → Prop} {va : Value} {S : List ByteArray} (l : Puts) (h : RtA W rb va (zP l) mx false) (ha : TxAt W va S Y) (hS : 0 < S.length) (hS2 : S.length ≤ 4096) (hll : l.length ≤ 4096) (hx : ∀ x ∈ l, x.1 < S.length) :
    Calls Tryz.prog 18 #[.pointer (some ⟨rb, 0, none⟩)] W fun e W' => ∃ g cap, e = .returned (.slice (some ⟨g, 0, none⟩) S.length cap) ∧ W'.ownsRow 0 9 1 (.slice (some ⟨g, 0, none⟩) (laidL S l).length cap) (laidL S l).length (sv (laidL S l)) ∧ W.heap.size ≤ g ∧ Fr (fun k => k = rb) W W' := by
  obtain ⟨i0, ii, hz0, hz1, hz2⟩ := infoStr
  obtain ⟨pv, ho, hrw⟩ := h.obj
  have hrb := blk_lt ho
  obtain ⟨ao, cap, rfl, hca⟩ := ha
  obtain ⟨ga, rfl, -, hga, hc1⟩ := hca hS
  rw [zP_length, wcells_zP] at hrw
  obtain ⟨lo, lcap, rfl, hval⟩ : ∃ lo lcap, pv = .slice lo l.length lcap ∧ (0 < l.length → ∃ b, lo = some ⟨b, 0, none⟩ ∧ b < W.heap.size ∧ ∀ i (hi : i < l.length), W.cell? ⟨b, i * 2, none⟩ = some (.int .i64 (l[i].1 : Int)) ∧ W.cell? ⟨b, i * 2 + 1, none⟩ = some (.string l[i].2)) := by
    rcases hrw.2 with ⟨rfl, h0⟩ | ⟨g, c, cur, rfl, _, hgb, _⟩
    · exact ⟨none, 0, by rw [h0], fun hp => by omega⟩
    · exact ⟨_, _, rfl, fun hp => ⟨g, rfl, blk_lt hgb, fun i hi => ⟨ownsRow_cell hrw rfl (pcells_at l i hi).1, ownsRow_cell hrw rfl (pcells_at l i hi).2⟩⟩⟩
  have o0 := cl_of ho 0
  have o1 := cl_of ho 1
  have o3 := cl_of ho 3
  have f3 := fz_of ho 3
  have HV := Lib.hid hval
  have hnews : ∀ j u, (sv S)[j]? = some u → W.cell? (Addr.add ⟨ga, 0, none⟩ j) = some u := by
    intro j u hj
    have hjl : j < S.length := by
      rcases Nat.lt_or_ge j S.length with h | h
      · exact h
      · rw [List.getElem?_eq_none (by simpa [sv] using h)] at hj; cases hj
    have : u = .string (S.getD j ByteArray.empty) := by
      simp [sv, hjl] at hj
      rw [← hj]
      simp [List.getD_eq_getElem?_getD, hjl]
    rw [this, Addr.add_lit, Nat.zero_add]
    exact hc1 j hjl
  have hone : ∀ u ∈ sv S, u.oneCell' = true := by
    intro u hu
    obtain ⟨b, _, rfl⟩ := List.mem_map.1 hu
    rfl
  have h63 : 0 + S.length ≤ maxLen := by unfold maxLen; omega
  have hby : (0 + S.length) * 16 ≤ 140737488355328 := by omega
  have hsl : (sv S).length = S.length * 1 := by simp [sv]
  clear hca hval h hrw ho
  go_enter Tryz.func18, Tryz.ntmps18
  go_wp2_with (at_builtin; refine wpList_append_own _ rfl _ _ 33 rfl W.heap.size 9 i0 (.string ByteArray.empty) 1 16 Tryz.underlying33 ii hz0 hz1 hz2 rfl (by decide) _ 0 [] rfl (World.ownsRow_nil _ _ _ _) ⟨ga, 0, none⟩ S.length cap (sv S) rfl hsl hnews hone h63 hby (Nat.le_refl _) ?_; intro v' w5 hown' hgrow _)
  rw [Nat.zero_add, List.nil_append] at hown'
  obtain ⟨g, gcap, rfl, hst⟩ : ∃ g gcap, v' = .slice (some ⟨g, 0, none⟩) S.length gcap ∧ LdI W S g gcap w5 := by
    rcases hown'.2 with ⟨rfl, h0⟩ | ⟨g, c, cur, rfl, h0, hh, hr⟩
    · omega
    · exact ⟨g, c, rfl, ownsRow_base hown', h0, (Below.refl _ _).grown hgrow (Nat.le_refl _) (fun k e => by cases e)⟩
  have HST := Lib.hid hst
  clear hown' hgrow hst hnews hone h63 hby hsl hc1
  go_wp2_with fail
  go_loopw [4] (fun v4 wr => ∃ k : Nat, k ≤ l.length ∧ v4 = .int .i64 k ∧ LdI W (laidL S (l.take k)) g gcap wr) (fun v4 _ => l.length - (intOf v4).toNat)
  case atStart => exact ⟨0, Nat.zero_le _, rfl, HST.out⟩
  case round =>
    obtain ⟨k, hk, rfl, hI⟩ := hrel
    have r1 := (hI.below.cell (p := ⟨rb, 1, none⟩) hrb).trans o1
    by_cases hlt : k < l.length
    · obtain ⟨b, rfl, hbl, hc⟩ := HV.out (by omega)
      obtain ⟨c0, c1⟩ := hc k hlt
      have d0 := (hI.below.cell (p := ⟨b, k * 2, none⟩) hbl).trans c0
      have d1 := (hI.below.cell (p := ⟨b, k * 2 + 1, none⟩) hbl).trans c1
      have hsn := laidL_snoc S l k hlt
      have HSN := Lib.hid hsn
      have hxk := hx l[k] (List.getElem_mem hlt)
      have hlen := laidL_length (l.take k) S
      generalize laidL S (l.take k) = L at *
      generalize l[k] = x at *
      obtain ⟨i, dat⟩ := x
      dsimp only at d0 d1 hxk HSN
      obtain ⟨fz, u, hu⟩ := hI.fz i (by omega)
      have HI := Lib.hid (hI.set i dat)
      have hgb : g ≠ b := by have := hI.ge; omega
      have hgr : g ≠ rb := by have := hI.ge; omega
      have HG := hI.ge
      clear hsn hc c0 c1 hI hlen
      go_wp2_with fail
      go_region
      all_goals
        go_wp2_with fail
        go_roundw
        case rel => exact ⟨k + 1, by omega, by go_num, by rw [HSN.out]; exact HI.out.drew⟩
        case measure => simp [intOf]; omega
    · obtain rfl : k = l.length := by omega
      rw [List.take_of_length_le (Nat.le_refl _)] at hI
      have r3 := (hI.below.cell (p := ⟨rb, 3, none⟩) hrb).trans o3
      have rf3 := (hI.below.frozen (p := ⟨rb, 3, none⟩) hrb).trans f3
      have HI := Lib.hid hI
      clear hI
      go_wp2_with fail
      go_ret
      have hge := HI.out.ge
      refine ⟨_, _, rfl, ownsRow_of_block HI.out.row (fun k e => Below.heap_setCell wr ⟨rb, 3, none⟩ _ k (fun e2 => ?_)), hge, Fr.setCell (S := fun k => k = rb) (Fr.of_below HI.out.below) ⟨rb, 3, none⟩ (.inr rfl) _⟩
      cases e
      have : g = rb := e2
      omega
end
end Go.Proofs.YtjjphcnoegaimaaGreat
