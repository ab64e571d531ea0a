/- slices.AppendSeq and slices.Collect at int, over whatever iterator; the iterator of maps.Keys at sectors. -/
import Derived.Test.YtjjphcnoegaimaaProg
import Derived.Test.YtjjphcnoegaimaaMapS
import Derived.Test.YtjjphcnoegaimaaRow
import Derived.Test.YtjjphcnoegaimaaBase2
import Derived.Maps.AppendAt
namespace Go.Proofs.Ytjjphcnoegaimaa
open Go.RowKit Go.Shelf Go.Maps
attribute [local go_sem] Oper.semAt_some

theorem wpListIn_append_at {F : Fence} {n : Nat} {P : Program} (w : World) {ops : Array Oper} {rest : List Oper} {o : Oper} {a : Act} {Q : Exit → Act → World → Prop}
    (hg : o.guard = none) (s x : Operand) (t : TypeId) (hop : o.op = Op.call { callee := Callee.builtin Builtin.append, args := #[s, x], argTypes := #[t, t] })
    (base : Nat) (e : TypeId) (i : TypeInfo) (z : Value) (size bytes : Nat) (h1 : P.underlying t = some (.slice e)) (h2 : P.info? e = some i) (h3 : i.zero = some z) (h4 : i.size = size) (h5 : i.bytes = bytes) (h6 : z.cells.size = size) (h7 : 0 < size)
    (v : Value) (k : Nat) (xs : List Value) (hs : a.eval s = v) (hown : w.ownsRow base e size v k xs) (ad : Addr) (m c : Nat) (news : List Value) (hx : a.eval x = .slice (some ad) m c) (hn : news.length = m * size)
    (hc : ∀ j u, news[j]? = some u → w.cell? (ad.add j) = some u) (h1c : ∀ u ∈ news, u.oneCell' = true) (b1 : k + m ≤ maxLen) (b2 : (k + m) * bytes ≤ 140737488355328) (b3 : base ≤ w.heap.size)
    (hK : ∀ v' w', w'.ownsRow base e size v' (k + m) (xs ++ news) → w.grownBy w' v.ownBlock → (v' = .slice none 0 0 ↔ v = .slice none 0 0 ∧ m = 0) → (v'.ownBlock = v.ownBlock ∨ v'.ownBlock = some w.heap.size) → wpListIn F n P ops Q rest (a.put o.dst v') w') :
    wpListIn F n P ops Q (o :: rest) a w := by
  refine wpListIn_plain hg fun K hK' => ?_
  obtain ⟨v', w', hrun, r1, r2, r3, r4⟩ := run_append_own_at (P := P) w base t o.type e i z size bytes h1 h2 h3 h4 h5 h6 h7 v k xs hown ad m c news hn hc h1c b1 b2 b3
  unfold Oper.wpIn
  refine ⟨?_, ?_⟩
  · simp [Oper.about, hop, resolve, Target.leads, Sem.run_pure]
  · rw [Oper.semAt_plain F _ _ (by rw [hop]; intro c hc'; cases hc')]
    simp [execOp, hop, resolve, invoke, builtin, hs, hx, hrun, Result.andThen]
    exact hK' _ _ (hK v' w' r1 r2 r3 r4)

/-- What a round that appends to the row in box B keeps: all blocks but the box and the row; the row stays, or lies in a new block. -/
def InRow (W : World) (B k : Nat) : Prop := ∃ g n c, W.cell? ⟨B, 0, none⟩ = some (.slice (some ⟨g, 0, none⟩) n c) ∧ g = k
structure ApKp (B : Nat) (W W' : World) : Prop where
  walks : KeepsWalks W W'
  same : ∀ k cs t fz, W.heap[k]? = some (.cells cs t fz) → k ≠ B → ¬ InRow W B k → W'.heap[k]? = some (.cells cs t fz)
  row : ∀ k, InRow W' B k → InRow W B k ∨ W.heap.size ≤ k
theorem ApKp.t {B : Nat} {X Y Z : World} (h : ApKp B X Y) (k : ApKp B Y Z) : ApKp B X Z := by
  refine ⟨h.walks.trans k.walks, fun i cs t fz hi hb hr => ?_, fun i hi => ?_⟩
  · refine k.same i cs t fz (h.same i cs t fz hi hb hr) hb (fun e => ?_)
    rcases h.row i e with e | e
    · exact hr e
    · have := blk_lt hi; omega
  · rcases k.row i hi with e | e
    · exact h.row i e
    · exact .inr (Nat.le_trans h.walks.size e)
theorem ApKp.b {B : Nat} {w : World} (hB : B < w.heap.size) (W : World) (l : Nat) (o o' : Obj) (hl : w.heap.size ≤ l) (h : W.heap[l]? = some o) (hc : o.isCells = false) (hw : o.isWalk = false) : ApKp B W (W.putObj l o') := by
  have hne : B ≠ l := by omega
  have hcell : (W.putObj l o').cell? ⟨B, 0, none⟩ = W.cell? ⟨B, 0, none⟩ := World.cell?_of_block (World.putObj_heap_other hne)
  refine ⟨KeepsWalks.putObj _ h hw, fun k cs t fz hk hb hr => (World.putObj_heap_other (fun e => ?_)).trans hk, fun k ⟨g, n, c, h1, h2⟩ => .inl ⟨g, n, c, by rw [← hcell]; exact h1, h2⟩⟩
  subst e
  rw [h] at hk
  cases hk
  cases hc
theorem InRow.iff_slice {W : World} {B : Nat} {v : Value} (h : W.cell? ⟨B, 0, none⟩ = some v) (k : Nat) : InRow W B k → v.ownBlock = some k := by
  rintro ⟨g, n, c, h1, h2⟩
  rw [h] at h1
  cases h1
  rw [← h2]
  rfl

theorem Try.infoInt : (Try.prog.info? 3).map (fun i => (i.zero, i.size, i.bytes)) = some (some (.int .i64 0), 1, 8) := by kernel_rfl

set_option maxRecDepth 100000 in
set_option maxHeartbeats 2000000 in
/-- slices.AppendSeq(nil, seq). -/
theorem appendseq_gen {gf : Nat} {lb : Array Value} {S : List Int → Prop} {N : Nat} (hN : N ≤ 1000000) (w : World) (eg : ∀ args w, (Go.callFunc gf args).run Try.prog w = .ok (.enter gf args) w)
    (hseq : SeqStopsK Fence.wide 8 Try.prog gf lb (fun x : Int => #[Value.int .i64 x]) (ApKp w.heap.size) S (fun _ => True) N (w.alloc (.cells #[.slice none 0 0] 38))) :
    Calls Try.prog 89 #[.slice none 0 0, .func (.func gf) #[] lb] w fun e w' => ∃ (v : Value) (ss : List Int), e = .returned v ∧ S ss ∧
      w'.ownsRow w.heap.size 3 1 v ss.length (ss.map (Value.int .i64)) ∧ (v = .slice none 0 0 ↔ ss = []) ∧ Below w.heap.size w w' := by
  obtain ⟨i0, hi, hz0, hz1, hz2⟩ := info_parts Try.infoInt
  refine (callsIn_wide (n := 9)).1 (callsIn_of_wp_marks Try.func89 rfl trivial ?_ rfl)
  refine wpIn_wide.2 ?_
  simp only [Try.ntmps89, List.size_toArray, List.length_cons, List.length_nil, Nat.reduceAdd, Nat.reduceSub, Array.replicate_succ, Array.replicate_zero, List.push_toArray, List.append_toArray, List.nil_append, List.cons_append]
  go_wp2_with fail
  obtain ⟨W0, hW0⟩ : ∃ W0, w.alloc (.cells #[.slice none 0 0] 38) = W0 := ⟨_, rfl⟩
  have hs0 : W0.heap.size = w.heap.size + 1 := by rw [← hW0]; simp
  have hv0 : Boxed W0 w.heap.size 38 (.slice none 0 0) := by rw [← hW0]; exact Boxed.new _ _ _
  have hB0 : Below w.heap.size w W0 := by rw [← hW0]; exact (Below.refl _ w).alloc (Nat.le_refl _) _
  rw [hW0] at hseq ⊢
  clear hW0
  refine (wpIn_wide (n := 9)).1 ?_
  refine wpIn_rangeFunc_ownF rfl (by omega) (gf := gf) (lb := lb) rfl trivial eg
    hseq ApKp.t (ApKp.b (by omega)) (Below.refl _ _) (fun _ => rfl)
    (fun pre W => (∃ v, Boxed W w.heap.size 38 v ∧ W.ownsRow w.heap.size 3 1 v pre.length (pre.map (Value.int .i64)) ∧ (v = .slice none 0 0 ↔ pre = [])) ∧ Below w.heap.size w W)
    (fun _ _ _ => False)
    (OwnFrom.and (Own.from (holdsRow_own w.heap.size w.heap.size 38 3 1 (fun pre : List Int => pre.length) (fun pre => pre.map (Value.int .i64)) (fun pre v => v = .slice none 0 0 ↔ pre = [])) _) (ownFrom_below (Nat.le_refl _) (by omega)))
    (fun _ _ _ _ _ hs _ _ => hs)
    ⟨⟨_, hv0, World.ownsRow_nil _ _ _ _, by simp⟩, hB0⟩
    (fun x => { tmps := #[.slice none 0 0, .func (.func gf) #[] lb, .pointer (some ⟨w.heap.size, 0, none⟩), undef, .slice none 0 0, .int .i64 x, .func (.func gf) #[] lb, .int .i64 x, undef, undef, undef, undef, undef], defers := [] }) ?assign ?body ?done ?stop
  case assign =>
    intro l x W K hK
    gi_wp2
    exact hK
  case body =>
    rintro l pre x W ⟨⟨v, hv, hrow, -⟩, hB⟩ hlen
    have hc := hv.cell
    have hle := hB.size
    have hl2 : pre.length + 1 ≤ maxLen := by unfold maxLen; omega
    gi_wp2_with (first | (gi_at_builtin; refine wpListIn_append_at _ rfl _ _ 38 rfl w.heap.size 3 i0 (.int .i64 0) 1 8 Try.underlying38 hi hz0 hz1 hz2 rfl (by decide) _ _ _ rfl (hrow.alloc _) ⟨W.heap.size, 0, none⟩ 1 1 [.int .i64 x] rfl rfl (cell_one_new _ _ _) (by simp [Value.oneCell']) hl2 (by omega) (by simp; omega) ?_; intro v' w1 hown' hgrow _ hat; obtain ⟨g', cap', rfl⟩ := ownsRow_succ hown'; obtain ⟨hv1, hv2, hr2, hk2, hb2⟩ := hv.appended (by decide) hrow hle (Nat.le_refl _) hown' hgrow; have hc1 := hv1.cell; have hf1 := hv1.frozen) | gi_in)
    refine ⟨hk2, ⟨hk2.walks, fun k cs t fz hk hb hr => ?_, fun k hk => ?_⟩, ⟨_, hv2, by simpa using hr2, by simp⟩, hB.trans hb2⟩
    · refine (Below.heap_setCell _ _ _ k hb).trans ((hgrow.block k (by have := blk_lt hk; simp; omega) (fun e => hr ?_)).trans (blk_old hk _))
      rcases hrow.2 with ⟨rfl, _⟩ | ⟨g, cap, cur, rfl, _⟩
      · cases e
      · cases e
        exact ⟨_, _, _, hc, rfl⟩
    · have := InRow.iff_slice hv2.cell k hk
      rcases hat with hat | hat
      · left
        rw [hat] at this
        rcases hrow.2 with ⟨rfl, _⟩ | ⟨g, cap, cur, rfl, _⟩
        · cases this
        · cases this
          exact ⟨_, _, _, hc, rfl⟩
      · right
        rw [hat] at this
        cases this
        simp
  case done =>
    rintro D ys W hD hS ⟨⟨v, hv, hrow, hnil⟩, hB⟩ hK
    have hc := hv.cell
    go_wp2
    refine ⟨by simp, .inl ⟨_, _, rfl, run_takeDeferred hK, ?_⟩⟩
    exact ⟨_, results_tmp rfl _ _ _, v, ys, rfl, hS, ownsRow_putObj hrow _ hK rfl, hnil, hB.trans (belowK_b (w := w) (Nat.le_refl _) W D _ _ (by omega) hK rfl rfl)⟩
  case stop =>
    rintro D c pre W _ _ h _
    exact h.elim

set_option maxHeartbeats 400000 in
theorem collect_gen {gf : Nat} {lb : Array Value} {S : List Int → Prop} {N : Nat} (hN : N ≤ 1000000) (w : World) (eg : ∀ args w, (Go.callFunc gf args).run Try.prog w = .ok (.enter gf args) w)
    (hseq : SeqStopsK Fence.wide 8 Try.prog gf lb (fun x : Int => #[Value.int .i64 x]) (ApKp w.heap.size) S (fun _ => True) N (w.alloc (.cells #[.slice none 0 0] 38))) :
    Calls Try.prog 65 #[.func (.func gf) #[] lb] w fun e w' => ∃ (v : Value) (ss : List Int), e = .returned v ∧ S ss ∧
      w'.ownsRow w.heap.size 3 1 v ss.length (ss.map (Value.int .i64)) ∧ (v = .slice none 0 0 ↔ ss = []) ∧ Below w.heap.size w w' := by
  have HS := Lib.hid hseq
  clear hseq
  go_enter Try.func65, Try.ntmps65
  go_wp2_with fail
  refine (appendseq_gen hN w eg HS.out).mono ?_
  rintro e w1 ⟨v, ss, rfl, h1, h2, h3, h4⟩
  go_wp2_with fail
  go_ret
  exact ⟨v, ss, rfl, h1, h2, h3, h4⟩
end Go.Proofs.Ytjjphcnoegaimaa
