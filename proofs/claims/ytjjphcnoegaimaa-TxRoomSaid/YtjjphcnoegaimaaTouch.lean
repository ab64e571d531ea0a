/- Package tx: Touched. -/
import Derived.Test.YtjjphcnoegaimaaEachK
namespace Go.Proofs.Ytjjphcnoegaimaa
open Go.RowKit Go.Shelf Go.Maps
attribute [local go_sem] Oper.semAt_some
set_option maxRecDepth 20000
set_option linter.unusedVariables false

section
variable {w W W' : World} {tb p jb m : Nat} {M : Wl}
set_option maxHeartbeats 4000000 in
theorem tx_touched (h : TxA w tb p jb m M false) (hM : M.length ≤ 1000000) : Calls Try.prog 56 #[.pointer (some ⟨tb, 0, none⟩)] w fun e w' =>
    ∃ v, e = .returned v ∧ w'.ownsRow w.heap.size 3 1 v M.length (M.map (fun x => Value.int .i64 x.1)) ∧ Below w.heap.size w w' := by
  obtain ⟨i0, hi, hz0, hz1, hz2⟩ := info_parts Try.infoInt
  have HT := Lib.hid h
  have HM := Lib.hid hM
  clear h hM
  refine (callsIn_wide (n := 9)).1 (callsIn_of_wp_marks Try.func56 rfl trivial ?_ rfl)
  refine wpIn_wide.2 ?_
  simp only [Try.ntmps56, List.size_toArray, List.length_cons, List.length_nil, Nat.reduceAdd, Nat.reduceSub, Array.replicate_succ, Array.replicate_zero, List.push_toArray, List.append_toArray, List.nil_append, List.cons_append]
  go_wp2_with fail
  obtain ⟨W0, hW0⟩ : ∃ W0, w.alloc (.cells #[.slice none 0 0] 38) = W0 := ⟨_, rfl⟩
  have hs0 : W0.heap.size = w.heap.size + 1 := by rw [← hW0]; simp
  have hv0 : Boxed W0 w.heap.size 38 (.slice none 0 0) := by rw [← hW0]; exact Boxed.new _ _ _
  have hB0 : Below w.heap.size w W0 := by rw [← hW0]; exact (Below.refl _ w).alloc (Nat.le_refl _) _
  rw [hW0]
  clear hW0
  have HT0 := Lib.hid (HT.out.of hB0)
  refine (tx_open HT0.out).mono ?_
  rintro e w1 ⟨rfl, rfl⟩
  go_wp2_with fail
  refine (wpIn_wide (n := 9)).1 ?_
  have HC0 := Lib.hid hv0.cell
  refine wpIn_rangeBound (by omega) (gf := 79) rfl (fun _ _ => by rfl)
    (each_seq 8 (by decide) (EaKp w.heap.size) (EaQ w.heap.size) EaKp.q W0 HT0.out HM.out (fun W' _ => ⟨.inl (blk_lt HT.out.obj), .inl HT.out.mlt⟩) (fun W' g cur hB hg hc => eaQ_new HC0.out (by omega) hB hg hc)) EaKp.t (EaKp.b (by omega)) (Below.refl _ _) (fun _ => rfl)
    (fun pre W => (∃ v, Boxed W w.heap.size 38 v ∧ W.ownsRow w.heap.size 3 1 v pre.length (pre.map (fun x => Value.int .i64 x.1))) ∧ Below w.heap.size w W)
    (OwnFrom.and (Own.from (fun pre W W' row hs hg hr => ((holdsRow_own w.heap.size w.heap.size 38 3 1 (fun pre : Wl => pre.length) (fun pre => pre.map (fun x => Value.int .i64 x.1)) (fun _ _ => True)) pre W W' row (by obtain ⟨v, a, b⟩ := hs; exact ⟨v, a, b, trivial⟩) hg hr).imp (fun v h => ⟨h.1, h.2.1⟩)) _) (ownFrom_below (Nat.le_refl _) (by omega)))
    ⟨⟨_, hv0, World.ownsRow_nil _ _ _ _⟩, hB0⟩
    (fun x => { tmps := #[.pointer (some ⟨tb, 0, none⟩), undef, .pointer (some ⟨w.heap.size, 0, none⟩), .int .i64 x.1, .pointer (some ⟨tb, 0, none⟩), .int .i64 0, .bool false, .pointer (some ⟨tb, 0, none⟩), .func (.func 79) #[.pointer (some ⟨tb, 0, none⟩)] #[], .int .i64 x.1, .string x.2, undef, undef, undef, undef, undef], defers := [] }) ?assign ?body ?done
  case assign =>
    intro l x W K hK
    gi_wp2
    exact hK
  case body =>
    rintro l pre x W ⟨⟨v, hv, hrow⟩, hB⟩ hlen
    have hc := hv.cell
    have hle := hB.size
    have hMl := HM.out
    have hl2 : pre.length + 1 ≤ maxLen := by unfold maxLen; omega
    gi_wp2_with (first | (gi_at_builtin; refine wpListIn_append_at _ rfl _ _ 38 rfl w.heap.size 3 i0 (.int .i64 0) 1 8 Try.underlying38 hi hz0 hz1 hz2 rfl (by decide) _ _ _ rfl (hrow.alloc _) ⟨W.heap.size, 0, none⟩ 1 1 [.int .i64 x.1] rfl rfl (cell_one_new _ _ _) (by simp [Value.oneCell']) hl2 (by omega) (by simp; omega) ?_; intro v' w1 hown' hgrow _ hat; obtain ⟨g', cap', rfl⟩ := ownsRow_succ hown'; obtain ⟨hv1, hv2, hr2, hk2, hb2⟩ := hv.appended (by decide) hrow hle (Nat.le_refl _) hown' hgrow; have hc1 := hv1.cell; have hf1 := hv1.frozen) | gi_in)
    refine ⟨hk2, ⟨⟨hk2.walks, fun k cs t fz hk hb hr => ?_, fun k hk => ?_⟩, fun k hk => hb2.block k hk⟩, ⟨_, hv2, by simpa using hr2⟩, hB.trans hb2⟩
    · refine (Below.heap_setCell _ _ _ k hb).trans ((hgrow.block k (by have := blk_lt hk; simp; omega) (fun e => hr ?_)).trans (blk_old hk _))
      rcases hrow.2 with ⟨rfl, _⟩ | ⟨g, cap, cur, rfl, _⟩
      · cases e
      · cases e
        exact ⟨_, _, _, hc, rfl⟩
    · have := InRow.iff_slice hv2.cell k hk
      rcases hat with hat | hat
      · left
        rw [hat] at this
        rcases hrow.2 with ⟨rfl, _⟩ | ⟨g, cap, cur, rfl, _⟩
        · cases this
        · cases this
          exact ⟨_, _, _, hc, rfl⟩
      · right
        rw [hat] at this
        cases this
        simp
  case done =>
    rintro D ys W hD rfl ⟨⟨v, hv, hrow⟩, hB⟩ hK
    obtain ⟨ao, nn, cp, rfl⟩ : ∃ ao nn cp, v = .slice ao nn cp := by
      rcases hrow.2 with ⟨rfl, _⟩ | ⟨g, cap, cur, rfl, _⟩
      · exact ⟨_, _, _, rfl⟩
      · exact ⟨_, _, _, rfl⟩
    have hc := hv.cell
    have hf := hv.frozen
    go_wp2
    have hDB : D ≠ w.heap.size := by omega
    have hK2 : (W.setCell ⟨w.heap.size, 0, none⟩ (.slice ao nn cp)).heap[D]? = some (.deferred (some [])) := (Below.heap_setCell W ⟨w.heap.size, 0, none⟩ _ D hDB).trans hK
    have hB2 : Below w.heap.size w (W.setCell ⟨w.heap.size, 0, none⟩ (.slice ao nn cp)) := hB.setCell (Nat.le_refl _) _
    have hv2 := hv.set (.slice ao nn cp)
    have hr2 : (W.setCell ⟨w.heap.size, 0, none⟩ (.slice ao nn cp)).ownsRow w.heap.size 3 1 (.slice ao nn cp) ys.length (ys.map (fun x => Value.int .i64 x.1)) := ownsRow_blockB hrow (fun k e => Below.heap_setCell W ⟨w.heap.size, 0, none⟩ _ k (fun e2 => (hv.not_row (by decide) hrow) (by rw [e, e2])))
    generalize W.setCell ⟨w.heap.size, 0, none⟩ (.slice ao nn cp) = W2 at *
    refine ⟨by simp, .inl ⟨_, _, rfl, run_takeDeferred hK2, ?_⟩⟩
    have hc3 : (W2.putObj D (.deferred none)).cell? ⟨w.heap.size, 0, none⟩ = some (.slice ao nn cp) := (World.cell?_of_block (World.putObj_heap_other (fun e => hDB e.symm))).trans hv2.cell
    refine ⟨_, ?_, .slice ao nn cp, rfl, ownsRow_putObj hr2 _ hK2 rfl, hB2.trans (belowK_b (w := w) (Nat.le_refl _) W2 D _ _ (by omega) hK2 rfl rfl)⟩
    simp [results, Try.results56, go_sem, hc3]
end
end Go.Proofs.Ytjjphcnoegaimaa
