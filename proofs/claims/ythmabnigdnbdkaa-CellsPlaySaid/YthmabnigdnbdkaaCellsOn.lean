/- Cells of which accesses are noted, as one predicate of a world; where two cores clash; the chapter's example. -/
import Derived.Test.YthmabnigdnbdkaaClash3
import Derived.Test.YthmabnigdnbdkaaRefCells
namespace Go.Proofs.Ythmabnigdnbdkaa
open Go.RowKit
set_option maxRecDepth 100000

structure CO (w0 : World) (p m : Nat) (on : Bool) (N : List (Int × Int)) (S : List Touch) (W : World) : Prop where
  ex : ∃ sv, CellsAt W p m sv on N S ∧ ∀ k, cfoot p m sv k → w0.heap.size ≤ k
  below : Below w0.heap.size w0 W
theorem CO.fr {w0 w w' : World} {p m : Nat} {on : Bool} {N : List (Int × Int)} {S : List Touch} (h : CO w0 p m on N S w) (hf : Fr (fun _ => False) w w') : CO w0 p m on N S w' := by
  obtain ⟨sv, hc, hk⟩ := h.ex
  exact ⟨⟨sv, hc.fr hf fun _ _ => id, hk⟩, Fr.step h.below hf h.below.size (fun _ h => h.elim)⟩
theorem CO.below' {w0 w w' : World} {p m : Nat} {on : Bool} {N : List (Int × Int)} {S : List Touch} (h : CO w0 p m on N S w) (hb : Below w.heap.size w w') : CO w0 p m on N S w' := h.fr (Fr.of_below hb)
theorem CO.step {w0 w w' : World} {p m : Nat} {on on' : Bool} {N N' : List (Int × Int)} {S S' : List Touch} {sv : Value} (h : CO w0 p m on N S w) (hk : ∀ k, cfoot p m sv k → w0.heap.size ≤ k) (hst : CStep w p m sv on' N' S' w') : CO w0 p m on' N' S' w' := by
  obtain ⟨sv', a, b, c⟩ := hst
  have hsz := h.below.size
  refine ⟨⟨sv', a, ?_⟩, Fr.step h.below b hsz hk⟩
  rintro k (rfl | rfl | hg)
  · exact hk _ (.inl rfl)
  · exact hk _ (.inr (.inl rfl))
  · rcases c with c | ⟨g, hg', hl⟩
    · exact hk _ (.inr (.inr (c ▸ hg)))
    · rw [hg] at hg'
      cases hg'
      omega
theorem co_new (w : World) : Calls Try.prog 13 #[] w fun e w' => ∃ p m, e = .returned (.pointer (some ⟨p, 0, none⟩)) ∧ CO w p m false [] [] w' := by
  refine (cells_new w).mono ?_
  rintro e w1 ⟨p, m, rfl, hc, hb, hp, hm⟩
  refine ⟨p, m, rfl, ⟨_, hc, ?_⟩, hb⟩
  rintro k (rfl | rfl | hg)
  · exact hp
  · exact hm
  · cases hg
theorem co_note {w0 w : World} {p m : Nat} {on : Bool} {N : List (Int × Int)} {S : List Touch} (h : CO w0 p m on N S w) (b : Bool) :
    Calls Try.prog 14 #[.pointer (some ⟨p, 0, none⟩), .bool b] w fun e w' => e = .returned (.tuple #[]) ∧ CO w0 p m b N S w' := by
  obtain ⟨sv, hc, hk⟩ := h.ex
  refine (cells_note hc b).mono ?_
  rintro e w' ⟨rfl, hst⟩
  exact ⟨rfl, h.step hk hst⟩
theorem co_write {w0 w : World} {p m : Nat} {on : Bool} {N N' : List (Int × Int)} {S S' : List Touch} (h : CO w0 p m on N S w) (hn : Few S) (core cell v : Int) (hN : nput cell v N = N') (hS : logged on S ⟨core, cell, true⟩ = S') :
    Calls Try.prog 22 #[.pointer (some ⟨p, 0, none⟩), .int .i64 core, .int .u64 cell, .int .i64 v] w fun e w' => e = .returned (.tuple #[]) ∧ CO w0 p m on N' S' w' := by
  subst hN hS
  obtain ⟨sv, hc, hk⟩ := h.ex
  refine (write_any hc hn core cell v).mono ?_
  rintro e w' ⟨rfl, hst⟩
  exact ⟨rfl, h.step hk hst⟩
theorem co_read {w0 w : World} {p m : Nat} {on : Bool} {N : List (Int × Int)} {S S' : List Touch} (h : CO w0 p m on N S w) (hn : Few S) (core cell v : Int) (hv : nget cell N = v) (hS : logged on S ⟨core, cell, false⟩ = S') :
    Calls Try.prog 19 #[.pointer (some ⟨p, 0, none⟩), .int .i64 core, .int .u64 cell] w fun e w' => e = .returned (.int .i64 v) ∧ CO w0 p m on N S' w' := by
  subst hv hS
  obtain ⟨sv, hc, hk⟩ := h.ex
  refine (read_any hc hn core cell).mono ?_
  rintro e w' ⟨rfl, hst⟩
  exact ⟨rfl, h.step hk hst⟩
theorem co_add {w0 w : World} {p m : Nat} {on : Bool} {N N' : List (Int × Int)} {S S' : List Touch} (h : CO w0 p m on N S w) (hn : Few S) (core cell v u : Int) (hu : nget cell N = u) (hN : nput cell (wrap64 (u + v)) N = N') (hS : logged on S ⟨core, cell, true⟩ = S') :
    Calls Try.prog 18 #[.pointer (some ⟨p, 0, none⟩), .int .i64 core, .int .u64 cell, .int .i64 v] w fun e w' => e = .returned (.int .i64 u) ∧ CO w0 p m on N' S' w' := by
  subst hu hN hS
  obtain ⟨sv, hc, hk⟩ := h.ex
  refine (add_any hc hn core cell v).mono ?_
  rintro e w' ⟨rfl, hst⟩
  exact ⟨rfl, h.step hk hst⟩
theorem co_peek {w0 w : World} {p m : Nat} {on : Bool} {N : List (Int × Int)} {S : List Touch} (h : CO w0 p m on N S w) (k v : Int) (hv : nget k N = v) :
    Calls Try.prog 17 #[.pointer (some ⟨p, 0, none⟩), .int .u64 k] w fun e w' => e = .returned (.int .i64 v) ∧ w = w' := by
  subst hv
  obtain ⟨sv, hc, hk⟩ := h.ex
  exact peek_any hc k
theorem co_seen {w0 w : World} {p m : Nat} {on : Bool} {N : List (Int × Int)} {S : List Touch} (h : CO w0 p m on N S w) (hn : Few S) :
    Calls Try.prog 29 #[.pointer (some ⟨p, 0, none⟩)] w fun e w' => ∃ v', e = .returned v' ∧ w'.ownsRow w.heap.size 91 3 v' S.length (touches S) ∧ CO w0 p m on N S w' := by
  obtain ⟨sv, hc, hk⟩ := h.ex
  refine (cells_seen hc hn).mono ?_
  rintro e w' ⟨v, rfl, hr, hf⟩
  exact ⟨v, rfl, hr, h.fr hf⟩
theorem co_clash {w0 w : World} {p m : Nat} {on : Bool} {N : List (Int × Int)} {SW : List TW} (h : CO w0 p m on N (SW.map Subtype.val) w) (hn : Few (SW.map Subtype.val)) (a b : Int) (hab : a ≠ b) (hM : (cagg a b SW).length ≤ 255) (cs : List Int)
    (hcs : clashes (cagg a b SW) (((cagg a b SW).map Prod.fst).mergeSort (fun x y => decide (x ≤ y))) = cs) :
    Calls Try.prog 16 #[.pointer (some ⟨p, 0, none⟩), .int .i64 a, .int .i64 b] w fun e w' => ∃ v, e = .returned v ∧ w'.ownsRow w.heap.size 30 1 v cs.length (cs.map (Value.int .u64)) ∧ CO w0 p m on N (SW.map Subtype.val) w' := by
  obtain ⟨sv, hc, hk⟩ := h.ex
  refine (clash_any hc hn a b hab hM).mono ?_
  rintro e w' ⟨v, cs', rfl, he, hr, hb⟩
  rw [hcs] at he
  subst he
  exact ⟨v, rfl, hr, h.below' hb⟩
set_option maxHeartbeats 400000 in
theorem clash_same (w : World) (p : Nat) (a : Int) :
    Calls Try.prog 16 #[.pointer (some ⟨p, 0, none⟩), .int .i64 a, .int .i64 a] w fun e w' => e = .returned (.slice none 0 0) ∧ w = w' := by
  go_enter Try.func16, Try.ntmps16
  go_wp2_with fail
  go_ret
  exact ⟨rfl, rfl⟩

set_option maxHeartbeats 2000000 in
/-- Two rows of the same numbers. -/
theorem same64 {w : World} {va vb : Value} {xs : List Int} (ha : w.ownsRow 0 30 1 va xs.length (xs.map (Value.int .u64))) (hb : w.ownsRow 0 30 1 vb xs.length (xs.map (Value.int .u64))) (hn : xs.length ≤ 10000) :
    Calls Try.prog 30 #[va, vb] w fun e w' => e = .returned (.bool true) ∧ Fr (fun _ => False) w w' := by
  obtain ⟨aa, ca, rfl, hca⟩ := own_form ha
  obtain ⟨ab, cb, rfl, hcb⟩ := own_form hb
  go_enter Try.func30, Try.ntmps30
  go_wp2_with fail
  go_loopw [5] (fun v5 wr => ∃ j : Nat, j ≤ xs.length ∧ v5 = .int .i64 j ∧ Fr (fun _ => False) w wr) (fun v5 _ => xs.length - (intOf v5).toNat)
  case atStart => exact ⟨0, by omega, rfl, Fr.refl _ _⟩
  case round =>
    obtain ⟨j, hj, rfl, hf⟩ := hrel
    by_cases hlt : j < xs.length
    · obtain ⟨g, rfl, -, hg, hc⟩ := hca (by omega)
      obtain ⟨g2, rfl, -, hg2, hc2⟩ := hcb (by omega)
      have t : (xs.map (Value.int .u64))[j]? = some (.int .u64 xs[j]) := by simp [hlt]
      generalize xs[j] = x at t
      have a0 := (hf.cell (p := ⟨g, j, none⟩) hg id).trans (hc _ _ t)
      have b0 := (hf.cell (p := ⟨g2, j, none⟩) hg2 id).trans (hc2 _ _ t)
      clear hca hcb hc hc2 t
      go_wp2_with fail
      go_quiet (fail)
      go_wp2_with fail
      go_roundw
      case rel => exact ⟨j + 1, by omega, by go_num, hf.trans (fr_drewN _ _)⟩
      case measure => simp [intOf]; omega
    · obtain rfl : j = xs.length := by omega
      go_wp2_with fail
      go_ret
      exact ⟨rfl, hf⟩

/-- The example's accesses. -/
def sw13 : List TW := [⟨⟨0, 5, true⟩, by decide⟩, ⟨⟨1, 5, false⟩, by decide⟩, ⟨⟨1, 6, true⟩, by decide⟩]
theorem agg13 : cagg 0 1 sw13 = [(5, ⟨1, 1, 1⟩), (6, ⟨0, 1, 1⟩)] := by kernel_rfl
theorem cl13 : clashes (cagg 0 1 sw13) (((cagg 0 1 sw13).map Prod.fst).mergeSort (fun x y => decide (x ≤ y))) = [5] := by
  rw [agg13]
  rw [show ([(5, ⟨1, 1, 1⟩), (6, ⟨0, 1, 1⟩)] : List (Int × Cnt)).map Prod.fst = [5, 6] from rfl, List.mergeSort_of_pairwise (by simp)]
  decide
set_option maxHeartbeats 4000000 in
theorem alive13 (w : World) : Calls Try.prog 12 #[] w fun e w' => e = .returned (.bool true) ∧ Below w.heap.size w w' := by
  go_enter Try.func12, Try.ntmps12
  go_wp2_with fail
  refine (co_new w).mono ?_
  rintro e w1 ⟨p, m, rfl, h1⟩
  go_wp2_with fail
  refine (co_note h1 true).mono ?_
  rintro e w2 ⟨rfl, h2⟩
  go_wp2_with fail
  refine (co_write h2 ⟨by simp⟩ 0 5 7 rfl rfl).mono ?_
  rintro e w3 ⟨rfl, h3⟩
  go_wp2_with fail
  refine (co_read h3 ⟨by simp [logged]⟩ 1 5 7 rfl rfl).mono ?_
  rintro e w4 ⟨rfl, h4⟩
  go_wp2_with fail
  refine (co_add (N' := [(5, 7), (6, 2)]) (S' := sw13.map Subtype.val) h4 ⟨by simp [logged]⟩ 1 6 2 0 rfl (by simp only [wrap64]; decide) rfl).mono ?_
  rintro e w5 ⟨rfl, h5⟩
  have hs : sw13.length = 3 := rfl
  go_wp2_with fail
  refine (co_clash h5 ⟨by simp [hs]⟩ 0 1 (by decide) (by rw [agg13]; decide) [5] cl13).mono ?_
  rintro e w6 ⟨v, rfl, hr, h6⟩
  go_wp2_with fail
  have hb5 : (w6.alloc (.cells #[.int .u64 5] 30)).ownsRow 0 30 1 (.slice (some ⟨w6.heap.size, 0, none⟩) 1 1) 1 [.int .u64 5] :=
    ⟨rfl, .inr ⟨w6.heap.size, 1, #[.int .u64 5], rfl, Nat.zero_le _, hp_new _ _ rfl, Nat.le_refl _, by unfold maxLen; omega, rfl, rfl⟩⟩
  refine (same64 (xs := [5]) ((ownsRow_zero hr).alloc _) hb5 (by simp)).mono ?_
  rintro e w7 ⟨rfl, hf7⟩
  have h7 := h6.fr ((frm_alloc (Fr.refl (fun _ => False) w6) (.cells #[.int .u64 5] 30)).trans hf7)
  clear hb5 hr
  go_wp2_with fail
  refine (clash_same w7 p 1).mono ?_
  rintro e w8 ⟨rfl, rfl⟩
  go_wp2_with fail
  refine (co_peek h7 6 2 rfl).mono ?_
  rintro e w8 ⟨rfl, rfl⟩
  go_wp2_with fail
  refine (co_seen h7 ⟨by simp [hs]⟩).mono ?_
  rintro e w8 ⟨v8, rfl, hr8, h8⟩
  obtain ⟨ao, cap, rfl, -⟩ := own_form (ownsRowB_zero hr8)
  rw [show (sw13.map Subtype.val).length = 3 from rfl] at hr8 ⊢
  go_wp2_with fail
  go_ret
  exact ⟨rfl, h8.below⟩
end Go.Proofs.Ythmabnigdnbdkaa
