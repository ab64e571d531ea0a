/- Package tx: Commit. -/
import Derived.Test.YtjjphcnoegaimaaEachK
import Derived.Test.YtjjphcnoegaimaaLin
namespace Go.Proofs.Ytjjphcnoegaimaa
open Go.RowKit Go.Shelf Go.Maps
attribute [local go_sem] Oper.semAt_some
set_option maxRecDepth 20000
set_option linter.unusedVariables false

/-- Puts as cells. -/
def wcells (M : Wl) : List Value := M.flatMap fun x => [.int .i64 x.1, .string x.2]
theorem wcells_snoc (M : Wl) (x : Int × ByteArray) : wcells (M ++ [x]) = wcells M ++ [.int .i64 x.1, .string x.2] := by simp [wcells]
theorem wcells_zP (l : Puts) : wcells (zP l) = pcells l := by
  unfold wcells zP pcells
  rw [List.flatMap_map]
/-- What a commit of a transaction leaves. -/
def TcPost (w0 : World) (X : Nat → Prop) (p jb N B fr n g r : Nat) (s : DS) (tb m : Nat) (l : Puts) (W : World) (e : Ending) (W' : World) : Prop :=
  (l = [] ∧ e = .returned (.tuple #[.int .u64 (g : Int), .int .i64 0]) ∧ TJ w0 X p jb N B fr n g r s tb m (zP l) true W' ∧ Kb w0 (fun k => X k ∧ k ≠ tb) W W') ∨
  (l ≠ [] ∧ (runO s (commitO fr (g + 1) l)).2 = true ∧ e = .returned (.tuple #[.int .u64 ((g + 1 : Nat) : Int), .int .i64 0]) ∧ TJ w0 X p jb N (B + wcount (commitO fr (g + 1) l)) fr n (g + 1) r (runO s (commitO fr (g + 1) l)).1 tb m (zP l) true W' ∧ Kb w0 (fun k => X k ∧ k ≠ tb ∧ k ≠ jb) W W') ∨
  (l ≠ [] ∧ (runO s (commitO fr (g + 1) l)).2 = false ∧ e = .returned (.tuple #[.int .u64 0, .int .i64 30]) ∧ TJ w0 X p jb N (B + wcount (commitO fr (g + 1) l)) fr n g r (runO s (commitO fr (g + 1) l)).1 tb m (zP l) true W' ∧ Kb w0 (fun k => X k ∧ k ≠ tb ∧ k ≠ jb) W W')

section
variable {w0 w W W' : World} {X : Nat → Prop} {p jb N B fr n g r tb m : Nat} {s : DS} {M : Wl}
theorem TJ.putD {dn : Bool} (h : TJ w0 X p jb N B fr n g r s tb m M dn W) {D : Nat} (hD : X D) (hw : w0.heap.size ≤ D) (hK : W.heap[D]? = some (.deferred (some []))) (o : Obj) : TJ w0 X p jb N B fr n g r s tb m M dn (W.putObj D o) := by
  have n1 : D ≠ jb := by rintro rfl; have := h.j.obj; rw [hK] at this; cases this
  have n2 : tb ≠ D := by rintro rfl; have := h.t.obj; rw [hK] at this; cases this
  have n3 : m ≠ D := by
    rintro rfl
    obtain ⟨L, ⟨es, c, hb, _⟩, _⟩ := h.t.map
    rw [hK] at hb
    cases hb
  exact ⟨h.j.grown hD hw n1 (grownBy_putObj' W D o), h.t.keep (World.putObj_heap_other (fun e => n2 e)) (World.putObj_heap_other (fun e => n3 e)), h.xt, h.xm, h.gt, h.gm⟩
theorem kb_putObj {Y : Nat → Prop} {W2 : World} {D : Nat} (h1 : w0.heap.size ≤ W.heap.size) (h2 : W.heap.size ≤ D) (hl : ∀ k, X k → k < W.heap.size) (o : Obj) : Kb w0 (fun k => X k ∧ Y k) W2 (W2.putObj D o) := fun k hk => World.putObj_heap_other (fun e => by
  rcases hk with hk | hk
  · omega
  · have := hl k hk.1; omega)
theorem info_put_parts : ∃ i0, Try.prog.info? 76 = some i0 ∧ i0.zero = some (.agg #[.int .i64 0, .string ByteArray.empty]) ∧ i0.size = 2 ∧ i0.bytes = 24 := infoPut

set_option maxHeartbeats 8000000 in
theorem tx_commit (l : Puts) (h : TJ w0 X p jb N B fr n g r s tb m (zP l) false W) {mx : Nat} (hm : IsMost n mx) (mp : MayP N fr n l) (hg : g + 1 < 18446744073709551616) (hB : B + wcount (commitO fr (g + 1) l) ≤ 90000) :
    Calls Try.prog 52 #[.pointer (some ⟨tb, 0, none⟩)] W (TcPost w0 X p jb N B fr n g r s tb m l W) := by
  obtain ⟨i0, hi, hz0, hz1, hz2⟩ := info_put_parts
  have hll : l.length ≤ 4096 := by have := mp.fit; have := mp.area; have := mp.small; omega
  have HT := Lib.hid h
  have hM : (zP l).length ≤ 1000000 := by rw [zP_length]; omega
  have HM := Lib.hid hM
  have HMP := Lib.hid mp
  have HMX := Lib.hid hm
  have HBB := Lib.hid hB
  have HGG := Lib.hid hg
  have HLL := Lib.hid hll
  clear h hM mp hm hB hg hll
  refine (callsIn_wide (n := 9)).1 (callsIn_of_wp_marks Try.func52 rfl trivial ?_ rfl)
  refine wpIn_wide.2 ?_
  simp only [Try.ntmps52, List.size_toArray, List.length_cons, List.length_nil, Nat.reduceAdd, Nat.reduceSub, Array.replicate_succ, Array.replicate_zero, List.push_toArray, List.append_toArray, List.nil_append, List.cons_append]
  go_wp2_with fail
  refine (tx_open HT.out.t).mono ?_
  rintro e w1 ⟨rfl, rfl⟩
  go_wp2_with fail
  obtain ⟨W0, hW0⟩ : ∃ W0, W.alloc (.cells #[.slice none 0 0] 52) = W0 := ⟨_, rfl⟩
  have hs0 : W0.heap.size = W.heap.size + 1 := by rw [← hW0]; simp
  have hv0 : Boxed W0 W.heap.size 52 (.slice none 0 0) := by rw [← hW0]; exact Boxed.new _ _ _
  have hB0 : Below W.heap.size W W0 := by rw [← hW0]; exact (Below.refl _ W).alloc (Nat.le_refl _) _
  rw [hW0]
  clear hW0
  have HT0 := Lib.hid (HT.out.of hB0)
  refine (wpIn_wide (n := 9)).1 ?_
  have HC0 := Lib.hid hv0.cell
  refine wpIn_rangeBound (by omega) (gf := 79) rfl (fun _ _ => by rfl)
    (each_seq 8 (by decide) (EaKp W.heap.size) (EaQ W.heap.size) EaKp.q W0 HT0.out.t HM.out (fun W' _ => ⟨.inl (blk_lt HT.out.t.obj), .inl HT.out.t.mlt⟩) (fun W' g cur hB hg hc => eaQ_new HC0.out (by omega) hB hg hc)) EaKp.t (EaKp.b (by omega)) (Below.refl _ _) (fun _ => rfl)
    (fun pre W1 => (∃ v, Boxed W1 W.heap.size 52 v ∧ W1.ownsRow W.heap.size 76 2 v pre.length (wcells pre)) ∧ Below W.heap.size W W1)
    (OwnFrom.and (Own.from (fun pre Wa Wb row hs hg hr => ((holdsRow_own W.heap.size W.heap.size 52 76 2 (fun pre : Wl => pre.length) (fun pre => wcells pre) (fun _ _ => True)) pre Wa Wb row (by obtain ⟨v, a, b⟩ := hs; exact ⟨v, a, b, trivial⟩) hg hr).imp (fun v h => ⟨h.1, h.2.1⟩)) _) (ownFrom_below (Nat.le_refl _) (by omega)))
    ⟨⟨_, hv0, World.ownsRow_nil _ _ _ _⟩, hB0⟩
    (fun x => { tmps := #[.pointer (some ⟨tb, 0, none⟩), undef, .int .u64 0, .int .i64 0, .int .i64 0, .pointer (some ⟨W.heap.size, 0, none⟩), .int .i64 x.1, .string x.2, .pointer (some ⟨tb, 0, none⟩), .int .i64 0, .int .i64 0, .bool false, undef, .pointer (some ⟨tb, 0, none⟩), .func (.func 79) #[.pointer (some ⟨tb, 0, none⟩)] #[], .int .i64 x.1, .string x.2, undef, undef, undef, undef, undef, undef, undef, undef, undef, undef, undef, undef, undef, undef, undef, undef, undef, undef, undef, undef, undef, undef, undef, undef, undef], defers := [] }) ?assign ?body ?done
  case assign =>
    intro l x W K hK
    gi_wp2
    exact hK
  case body =>
    rintro l1 pre x W1 ⟨⟨v, hv, hrow⟩, hB⟩ hlen
    have hc := hv.cell
    have hle := hB.size
    have hMl := HM.out
    have hl2 : pre.length + 1 ≤ maxLen := by unfold maxLen; omega
    gi_wp2_with (first | (gi_at_builtin; refine wpListIn_append_at _ rfl _ _ 52 rfl W.heap.size 76 i0 (.agg #[.int .i64 0, .string ByteArray.empty]) 2 24 Try.underlying52 hi hz0 hz1 hz2 rfl (by decide) _ _ _ rfl (hrow.alloc _) ⟨W1.heap.size, 0, none⟩ 1 1 [.int .i64 x.1, .string x.2] rfl rfl (World.news_of_block (hp_new _ _ rfl)) (by simp [Value.oneCell']) hl2 (by omega) (by simp; omega) ?_; intro v' w1 hown' hgrow _ hat; obtain ⟨g', cap', rfl⟩ := ownsRow_succ hown'; obtain ⟨hv1, hv2, hr2, hk2, hb2⟩ := hv.appended (by decide) hrow hle (Nat.le_refl _) hown' hgrow; have hc1 := hv1.cell; have hf1 := hv1.frozen) | gi_in)
    refine ⟨hk2, ⟨⟨hk2.walks, fun k cs t fz hk hb hr => ?_, fun k hk => ?_⟩, fun k hk => hb2.block k hk⟩, ⟨_, hv2, by rw [wcells_snoc]; simpa using hr2⟩, hB.trans hb2⟩
    · refine (Below.heap_setCell _ _ _ k hb).trans ((hgrow.block k (by have := blk_lt hk; simp; omega) (fun e => hr ?_)).trans (blk_old hk _))
      rcases hrow.2 with ⟨rfl, _⟩ | ⟨g, cap, cur, rfl, _⟩
      · cases e
      · cases e
        exact ⟨_, _, _, hc, rfl⟩
    · have := InRow.iff_slice hv2.cell k hk
      rcases hat with hat | hat
      · left
        rw [hat] at this
        rcases hrow.2 with ⟨rfl, _⟩ | ⟨g, cap, cur, rfl, _⟩
        · cases this
        · cases this
          exact ⟨_, _, _, hc, rfl⟩
      · right
        rw [hat] at this
        cases this
        simp
  case done =>
    rintro D ys W1 hD rfl ⟨⟨v, hv, hrow⟩, hB⟩ hK
    rw [zP_length, wcells_zP] at hrow
    obtain ⟨ao, cp, rfl⟩ : ∃ ao cp, v = .slice ao l.length cp := by
      rcases hrow.2 with ⟨rfl, h0⟩ | ⟨g, cap, cur, rfl, _⟩
      · exact ⟨_, _, by rw [h0]⟩
      · exact ⟨_, _, rfl⟩
    have hvne := hv.not_row (by decide) hrow
    have h1 := HT.out.take hB
    have hx1 : ∀ k, W.heap.size ≤ k → k < W1.heap.size → (fun k => X k ∨ W.heap.size ≤ k ∧ k < W1.heap.size) k := fun k a b => .inr ⟨a, b⟩
    have hw0 : w0.heap.size ≤ W.heap.size := HT.out.j.dev.below.size
    have htl := blk_lt HT.out.t.obj
    have hDl := blk_lt hK
    have hBl := hv.lt
    have t3 := cl_of h1.t.obj 3
    have f3 := fz_of h1.t.obj 3
    obtain ⟨W2, hW2⟩ : ∃ W2, W1.setCell ⟨tb, 3, none⟩ (.bool true) = W2 := ⟨_, rfl⟩
    have h2 := h1.abort
    have hks : ∀ k, k ≠ tb → W2.heap[k]? = W1.heap[k]? := fun k hk => by rw [← hW2]; exact kb_set 3 _ k hk
    rw [hW2] at h2
    have c2 : W2.cell? ⟨W.heap.size, 0, none⟩ = some (.slice ao l.length cp) := (World.cell?_of_block (hks W.heap.size (by omega))).trans hv.cell
    have d2 : W2.heap[D]? = some (.deferred (some [])) := (hks D (by omega)).trans hK
    have j2 : W2.cell? ⟨tb, 1, none⟩ = some (.pointer (some ⟨jb, 0, none⟩)) := cl_of h2.t.obj 1
    have sl2 : SlP w0 (fun k => X k ∨ W.heap.size ≤ k ∧ k < W1.heap.size) W2 (.slice ao l.length cp) (zP l) := by
      rcases hrow.2 with ⟨e, h0⟩ | ⟨g, cap, cur, e, h0, hh, _⟩
      · refine ⟨ao, cp, by rw [zP_length], fun hp => ?_⟩
        rw [zP_length] at hp
        omega
      · refine ⟨ao, cp, by rw [zP_length], fun hp => ⟨g, 0, by cases e; rfl, .inr (.inr ⟨h0, blk_lt hh⟩), fun i hi => ?_⟩⟩
        rw [zP_length] at hi
        rw [zP_get l i hi]
        obtain ⟨a, b⟩ := pcells_at l i hi
        have hr2 := ownsRow_blockB hrow (W' := W2) (fun k e2 => hks k (by rw [e] at e2; have hk : g = k := (by simpa [Value.ownBlock] using e2); omega))
        have hcc := fun j u (hj : (pcells l)[j]? = some u) => ownsRow_cell (ownsRow_base hr2) (by rw [e]) hj
        exact ⟨by rw [Nat.zero_add]; exact hcc _ _ a, by rw [Nat.zero_add]; exact hcc _ _ b⟩
    have k2 : Kb w0 (fun k => X k ∧ k ≠ tb) W W2 := fun k hk => by
      have hne : k ≠ tb := by
        rcases hk with hk | hk
        · have := HT.out.gt; omega
        · exact hk.2
      rw [hks k hne]
      exact hB.block k (hk.elim (fun e => by omega) (fun e => HT.out.j.dev.lt k e.1))
    have HH2 := Lib.hid h2
    have HSL := Lib.hid sl2
    have HK2 := Lib.hid k2
    have HD2 := Lib.hid d2
    have HDW : Hid (W.heap.size < D ∧ D < W1.heap.size) := Lib.hid ⟨by omega, hDl⟩
    have HW0 := Lib.hid hw0
    have hDB : D ≠ tb := by omega
    have HDB := Lib.hid hDB
    have HWt := Lib.hid hW2
    clear h1 h2 sl2 k2 d2 hx1 hw0 hB hK hrow hDl hBl hvne hDB hks hD
    by_cases hl0 : l = []
    · have e0 : (l.length : Int) = 0 := by rw [hl0]; rfl
      have e1 : ((l.length : Int) == 0) = true := by rw [hl0]; rfl
      have HL0 := Lib.hid hl0
      clear hl0 hz0 hz1 hz2 hi
      go_wp2_with fail
      refine (jgen_any HH2.out.j).mono ?_
      rintro e w3 ⟨rfl, rfl⟩
      go_wp2_with fail
      refine ⟨by simp, .inl ⟨_, _, rfl, run_takeDeferred HD2.out, ?_⟩⟩
      have h3 := (HH2.out.putD (.inr ⟨Nat.le_of_lt HDW.out.1, HDW.out.2⟩) (Nat.le_trans HW0.out (Nat.le_of_lt HDW.out.1)) HD2.out (.deferred none)).less (Y := X) (fun _ h => .inl h) HT.out.j.own HT.out.xt HT.out.xm
      exact ⟨_, results_tmp2 rfl _ _ _, .inl ⟨HL0.out, rfl, h3, HK2.out.t (kb_putObj HW0.out (Nat.le_of_lt HDW.out.1) HT.out.j.dev.lt _)⟩⟩
    · have hne : (l.length : Int) ≠ 0 := by
        have : l.length ≠ 0 := fun e => hl0 (List.eq_nil_of_length_eq_zero e)
        omega
      have e1 : ((l.length : Int) == 0) = false := by simpa using hne
      have h3 : JS w0 (fun k => X k ∨ W.heap.size ≤ k ∧ k < W1.heap.size) p jb N B fr n g r s W2.drew := (HH2.out.of (Below.refl _ _).drew).j
      have sl3 : SlP w0 (fun k => X k ∨ W.heap.size ≤ k ∧ k < W1.heap.size) W2.drew (.slice ao l.length cp) (zP l) := HSL.out.kb (Kb.refl _ _ _)
      have hres := fun (W4 : World) (g' : Nat) (s' : DS) (B' : Nat) (a : JS w0 (fun k => X k ∨ W.heap.size ≤ k ∧ k < W1.heap.size) p jb N B' fr n g' r s' W4) (b : Kb w0 (fun k => (X k ∨ W.heap.size ≤ k ∧ k < W1.heap.size) ∧ k ≠ jb) W2.drew W4) => (by
        have hb : ∀ k, (k < w0.heap.size ∨ (X k ∨ W.heap.size ≤ k ∧ k < W1.heap.size) ∧ k ≠ jb) → W4.heap[k]? = W2.heap[k]? := fun k hk => b k hk
        have t4 := HH2.out.t.keep (hb tb (.inr ⟨.inl HT.out.xt, HT.out.tjb⟩)) (hb m (.inr ⟨.inl HT.out.xm, HT.out.mjb⟩))
        have hjb := blk_lt HT.out.j.obj
        have d4 := (hb D (.inr ⟨.inr ⟨Nat.le_of_lt HDW.out.1, HDW.out.2⟩, by have := HDW.out; omega⟩)).trans HD2.out
        have q4 : TJ w0 (fun k => X k ∨ W.heap.size ≤ k ∧ k < W1.heap.size) p jb N B' fr n g' r s' tb m (zP l) true W4 := ⟨a, t4, .inl HT.out.xt, .inl HT.out.xm, HT.out.gt, HT.out.gm⟩
        have q5 := (q4.putD (.inr ⟨Nat.le_of_lt HDW.out.1, HDW.out.2⟩) (Nat.le_trans HW0.out (Nat.le_of_lt HDW.out.1)) d4 (.deferred none)).less (Y := X) (fun _ h => .inl h) HT.out.j.own HT.out.xt HT.out.xm
        have k5 : Kb w0 (fun k => X k ∧ k ≠ tb ∧ k ≠ jb) W (W4.putObj D (.deferred none)) := by
          have e1 : Kb w0 (fun k => X k ∧ k ≠ tb ∧ k ≠ jb) W W2 := HK2.out.less (fun k hk => ⟨hk.1, hk.2.1⟩)
          refine e1.t (Kb.t (B := W4) (show Kb w0 (fun k => X k ∧ k ≠ tb ∧ k ≠ jb) W2 W4 from fun k hk => hb k (hk.elim .inl (fun e => .inr ⟨.inl e.1, e.2.2⟩))) ?_)
          exact kb_putObj HW0.out (Nat.le_of_lt HDW.out.1) HT.out.j.dev.lt _
        have hjb2 : jb ≠ W.heap.size := by omega
        exact ⟨q5, k5, d4, cl_of ((HH2.out.t.keep (hb tb (.inr ⟨.inl HT.out.xt, HT.out.tjb⟩)) (hb m (.inr ⟨.inl HT.out.xm, HT.out.mjb⟩))).obj) 1, (World.cell?_of_block (hb W.heap.size (.inr ⟨.inr ⟨Nat.le_refl _, by have := HDW.out; omega⟩, fun e => hjb2 e.symm⟩))).trans c2⟩ : TJ w0 X p jb N B' fr n g' r s' tb m (zP l) true (W4.putObj D (.deferred none)) ∧ Kb w0 (fun k => X k ∧ k ≠ tb ∧ k ≠ jb) W (W4.putObj D (.deferred none)) ∧ W4.heap[D]? = some (.deferred (some [])) ∧ W4.cell? ⟨tb, 1, none⟩ = some (.pointer (some ⟨jb, 0, none⟩)) ∧ W4.cell? ⟨W.heap.size, 0, none⟩ = some (.slice ao l.length cp))
      have cm : Calls Try.prog 37 #[.pointer (some ⟨jb, 0, none⟩), .slice ao l.length cp] W2.drew fun e W4 => ∃ (c d : Int), e = .returned (.tuple #[.int .u64 c, .int .i64 d]) ∧ W4.cell? ⟨tb, 1, none⟩ = some (.pointer (some ⟨jb, 0, none⟩)) ∧ W4.cell? ⟨W.heap.size, 0, none⟩ = some (.slice ao l.length cp) ∧ Hid (W4.heap[D]? = some (.deferred (some [])) ∧ TcPost w0 X p jb N B fr n g r s tb m l W (.returned (.tuple #[.int .u64 c, .int .i64 d])) (W4.putObj D (.deferred none))) := by
        refine (commit_any l h3 sl3 HMX.out HMP.out HGG.out HBB.out).mono ?_
        rintro e w4 (⟨hok, rfl, a, b⟩ | ⟨hno, rfl, a, b⟩)
        · obtain ⟨q5, k5, d4, x1, x2⟩ := hres w4 _ _ _ a b
          exact ⟨_, _, rfl, x1, x2, Lib.hid ⟨d4, .inr (.inl ⟨hl0, hok, rfl, q5, k5⟩)⟩⟩
        · obtain ⟨q5, k5, d4, x1, x2⟩ := hres w4 _ _ _ a b
          exact ⟨_, _, rfl, x1, x2, Lib.hid ⟨d4, .inr (.inr ⟨hl0, hno, rfl, q5, k5⟩)⟩⟩
      have CM := Lib.hid cm
      clear hl0 hne hz0 hz1 hz2 hi h3 sl3 hres cm hv hv0 hs0 hB0
      go_wp2_with fail
      first | (go_region_held3 (fun Wq => Wq.cell? ⟨tb, 1, none⟩ = some (.pointer (some ⟨jb, 0, none⟩)) ∧ Wq.cell? ⟨W.heap.size, 0, none⟩ = some (.slice ao l.length cp)) (first | exact ⟨j2, c2⟩ | assumption | exact ⟨by assumption, by assumption⟩) (first | (go_at_call 37; ((with_reducible refine CM.out.mono ?_); rintro e w4 ⟨c, d, rfl, x1, x2, hpost⟩)))) | fail
      first | (rename_i hK; refine hK _ _ ?_; clear hK) | (rename_i hK _; refine hK _ _ ?_; clear hK) | (rename_i hK _ _; refine hK _ _ ?_; clear hK)
      go_wp2_with fail
      refine ⟨by simp, .inl ⟨_, _, rfl, run_takeDeferred hpost.out.1, ?_⟩⟩
      exact ⟨_, results_tmp2 (t := 2) (u := 3) rfl _ _ _, hpost.out.2⟩
end
end Go.Proofs.Ytjjphcnoegaimaa
