/- package cells: Clash, where the cells are few. -/
import Derived.Test.YthmabnigdnbdkaaClash2
import Derived.Test.YthmabnigdnbdkaaSortedV
import Derived.Laws.EntriesVeiled
import Derived.RangeFuncNested
namespace Go.Proofs.Ythmabnigdnbdkaa
open Go.RowKit Go.Shelf Go.Maps
attribute [local go_sem] Oper.semAt_some

/-- What the accesses of a core come to. -/
def agg1 (a b : Int) (S : List Touch) (M : List (Int × Cnt)) : List (Int × Cnt) := S.foldl (fun M x => add1 x a b M) M
theorem agg1_snoc (a b : Int) (S : List Touch) (x : Touch) (M : List (Int × Cnt)) : agg1 a b (S ++ [x]) M = add1 x a b (agg1 a b S M) := by simp [agg1]
theorem agg1_clt {a b : Int} (ha : 0 ≤ a ∧ a ≤ 1) (hb : 0 ≤ b ∧ b ≤ 1) : ∀ (S : List Touch) {n : Int} {M : List (Int × Cnt)}, CLt n M → CLt (n + S.length) (agg1 a b S M)
  | [], n, M, h => by simpa [agg1] using h
  | x :: S, n, M, h => by
    have := agg1_clt ha hb S (h.add x ha hb)
    simp only [agg1, List.foldl_cons, List.length_cons] at this ⊢
    rw [show n + ((S.length + 1 : Nat) : Int) = n + 1 + S.length by omega]
    exact this
theorem clt_nil : CLt 0 [] := fun k => by simp [cget]
theorem clt_mono {n n' : Int} {M : List (Int × Cnt)} (h : CLt n M) (hn : n ≤ n') : CLt n' M := fun k => by have := h k; omega

/-- What lies there while accesses are counted. -/
structure CAt (w : World) (M : List (Int × Cnt)) (W : World) : Prop where
  map : MapS W w.heap.size .u64 (cnts M)
  mbox : W.heap[w.heap.size + 1]? = some (.cells #[.map (some w.heap.size)] 89 (0, 0))
  fbox : W.heap[w.heap.size + 1 + 1]? = some (.cells #[.func (.func 52) #[] #[.pointer (some ⟨w.heap.size + 1, 0, none⟩)]] 94 (0, 0))
  below : Below w.heap.size w W
theorem cat_own {β : Type} {w : World} {B : Nat} (hB : w.heap.size + 2 < B) (f : β → List (Int × Cnt)) : OwnFrom B (fun s W => CAt w (f s) W) := by
  intro s W W' row h hg hr
  have hk : ∀ k, k < B → W'.heap[k]? = W.heap[k]? ∨ W.heap.size ≤ k := fun k hk => by
    by_cases hks : k < W.heap.size
    · exact .inl (hg.block k hks (fun e => by have := (hr k e.symm).1; omega))
    · exact .inr (by omega)
  have hk' : ∀ k o, k < B → W.heap[k]? = some o → W'.heap[k]? = some o := fun k o h1 h2 => by
    rcases hk k h1 with e | e
    · rw [e]; exact h2
    · have := blk_lt h2; omega
  refine ⟨h.map.of_block ?_, hk' _ _ (by omega) h.mbox, hk' _ _ (by omega) h.fbox, h.below.grown hg (h.below.size) (fun k e => by have := (hr k e).1; omega)⟩
  rcases hk w.heap.size (by omega) with e | e
  · exact e
  · have := h.map.lt; omega

theorem cat_step {w W W' : World} {M M' : List (Int × Cnt)} (h : CAt w M W) (hm : MapS W' w.heap.size .u64 (cnts M')) (hf : Fr (· = w.heap.size) W W') : CAt w M' W' :=
  ⟨hm, (hf.block _ (blk_lt h.mbox) (by omega)).trans h.mbox, (hf.block _ (blk_lt h.fbox) (by omega)).trans h.fbox, Fr.step h.below hf h.below.size (fun k e => by omega)⟩
theorem cat_keeps {w W W' : World} (hf : Fr (· = w.heap.size) W W') (B : Nat) (hB : w.heap.size < B) : KeepsFrom B W W' :=
  ⟨hf.size, fun k o hk h1 _ => (hf.block k (blk_lt h1) (by omega)).trans h1⟩
theorem cat_keepb {w W W' : World} (hf : Fr (· = w.heap.size) W W') {T : Nat → Prop} (hT : ∀ k, T k → k < W.heap.size ∧ k ≠ w.heap.size) : KeepB T W W' :=
  fun k hk => hf.block k (hT k hk).1 (hT k hk).2

/-- What two cores' accesses come to. -/
def cagg (a b : Int) (SW : List TW) : List (Int × Cnt) := agg1 0 1 ((ofc b SW).map Subtype.val) (agg1 1 0 ((ofc a SW).map Subtype.val) [])
/-- Where they clash. -/
def clashes (M : List (Int × Cnt)) (ks : List Int) : List Int := ks.filter fun k => decide (0 < (cget k M).f) && (decide (0 < (cget k M).s) && decide (0 < (cget k M).w))
theorem clashes_succ (M : List (Int × Cnt)) (ks : List Int) (i : Nat) (h : i < ks.length) : clashes M (ks.take (i + 1)) = if decide (0 < (cget ks[i] M).f) && (decide (0 < (cget ks[i] M).s) && decide (0 < (cget ks[i] M).w)) then clashes M (ks.take i) ++ [ks[i]] else clashes M (ks.take i) := by
  unfold clashes
  rw [List.take_succ_eq_append_getElem h, List.filter_append]
  split <;> simp_all
theorem CAt.alloc {w W : World} {M : List (Int × Cnt)} (h : CAt w M W) (o : Obj) : CAt w M (W.alloc o) :=
  ⟨h.map.of_block (hp_old _ _ h.map.lt), blk_old h.mbox o, blk_old h.fbox o, h.below.alloc h.below.size o⟩

theorem CAt.of_below {w W W' : World} {M : List (Int × Cnt)} (h : CAt w M W) (hb : Below W.heap.size W W') : CAt w M W' :=
  ⟨h.map.of_block (hb.block _ h.map.lt), bblk hb h.mbox, bblk hb h.fbox, h.below.trans (hb.mono h.below.size)⟩
theorem ownsRow_zero {W : World} {base : Nat} {e : TypeId} {size : Nat} {v : Value} {n : Nat} {xs : List Value} (h : W.ownsRow base e size v n xs) : W.ownsRow 0 e size v n xs := by
  refine ⟨h.1, ?_⟩
  rcases h.2 with h' | ⟨g, cap, cur, a1, a2, a3⟩
  · exact .inl h'
  · exact .inr ⟨g, cap, cur, a1, Nat.zero_le _, a3⟩
theorem ownsRow_base {W : World} {base B : Nat} {e : TypeId} {size : Nat} {v : Value} {n : Nat} {xs : List Value} (h : W.ownsRow base e size v n xs) (hB : B ≤ base) : W.ownsRow B e size v n xs := by
  refine ⟨h.1, ?_⟩
  rcases h.2 with h' | ⟨g, cap, cur, a1, a2, a3⟩
  · exact .inl h'
  · exact .inr ⟨g, cap, cur, a1, by omega, a3⟩
theorem ownsRow_ltb {W : World} {base : Nat} {e : TypeId} {size : Nat} {v : Value} {n : Nat} {xs : List Value} (h : W.ownsRow base e size v n xs) {k : Nat} (hk : v.ownBlock = some k) : k < W.heap.size := by
  rcases h.2 with ⟨rfl, _⟩ | ⟨g, cap, cur, rfl, h0, hh, hr⟩
  · cases hk
  · cases hk
    exact (Array.getElem?_eq_some_iff.1 hh).1

set_option maxRecDepth 100000 in
set_option maxHeartbeats 8000000 in
theorem clash_any {w : World} {p m : Nat} {sv : Value} {on : Bool} {N : List (Int × Int)} {SW : List TW} (h : CellsAt w p m sv on N (SW.map Subtype.val)) (hf : Few (SW.map Subtype.val)) (a b : Int) (hab : a ≠ b) (hM : (cagg a b SW).length ≤ 255) :
    Calls Try.prog 16 #[.pointer (some ⟨p, 0, none⟩), .int .i64 a, .int .i64 b] w fun e w' => ∃ (v : Value) (cs : List Int), e = .returned v ∧ cs = clashes (cagg a b SW) (((cagg a b SW).map Prod.fst).mergeSort (fun x y => decide (x ≤ y))) ∧ w'.ownsRow w.heap.size 30 1 v cs.length (cs.map (Value.int .u64)) ∧ Below w.heap.size w w' := by
  have hab' : (a == b) = false := by simpa using hab
  have hmm := @run_makeMap Try.prog
  have hlen : (SW.map Subtype.val).length = SW.length := by simp
  have hfo := hf.out
  rw [hlen] at hfo
  clear hlen
  refine (callsIn_wide (n := 9)).1 (callsIn_of_wp_marks Try.func16 rfl trivial ?_ rfl)
  refine wpIn_wide.2 ?_
  simp only [Try.ntmps16, List.size_toArray, List.length_cons, List.length_nil, Nat.reduceAdd, Nat.reduceSub, Array.replicate_succ, Array.replicate_zero, List.push_toArray, List.append_toArray, List.nil_append, List.cons_append]
  go_wp2_with (go_at_call 53; refine (callsIn_wide.1 (of_in 9 _ _ _)).mono ?_; rintro e w' ⟨rfl, rfl⟩)
  obtain ⟨W0, hW0, hsz, hC0, hA0, hB0⟩ : ∃ W0 : World, (((((w.alloc (.map #[] 0)).alloc (.cells #[.map (some w.heap.size)] 89)).alloc (.cells #[.func (.func 52) #[] #[.pointer (some ⟨w.heap.size + 1, 0, none⟩)]] 94)).alloc (.cells #[.pointer (some ⟨p, 0, none⟩)] 25)).alloc (.cells #[.int .i64 a] 3)) = W0 ∧ W0.heap.size = w.heap.size + 5 ∧ CAt w [] W0 ∧
      W0.heap[w.heap.size + 1 + 1 + 1]? = some (.cells #[.pointer (some ⟨p, 0, none⟩)] 25 (0, 0)) ∧ W0.heap[w.heap.size + 1 + 1 + 1 + 1]? = some (.cells #[.int .i64 a] 3 (0, 0)) := by
    refine ⟨_, rfl, by simp, ⟨?_, ?_, ?_, ?_⟩, ?_, ?_⟩
    · exact ((((MapS.new w .u64).of_block (hp_old _ _ (by simp))).of_block (hp_old _ _ (by simp; omega))).of_block (hp_old _ _ (by simp; omega))).of_block (hp_old _ _ (by simp; omega))
    · rw [hp_old _ _ (by simp only [World.size_alloc]; omega), hp_old _ _ (by simp only [World.size_alloc]; omega), hp_old _ _ (by simp only [World.size_alloc]; omega), hp_new _ _ (by simp)]
    · rw [hp_old _ _ (by simp only [World.size_alloc]; omega), hp_old _ _ (by simp only [World.size_alloc]; omega), hp_new _ _ (by simp)]
    · exact (((((Below.refl _ w).alloc (Nat.le_refl _) _).alloc (by simp) _).alloc (by simp; omega) _).alloc (by simp; omega) _).alloc (by simp; omega) _
    · rw [hp_old _ _ (by simp only [World.size_alloc]; omega), hp_new _ _ (by simp)]
    · rw [hp_new _ _ (by simp)]
  rw [hW0]
  have hc0 := h.fr (Fr.of_below (S := fun _ => False) hC0.below) (fun _ _ => id)
  clear hW0
  have hlt := fun k hk => h.lt (k := k) hk
  refine (wpIn_wide (n := 9)).1 ?_
  refine wpIn_rangeFunc_ownH rfl (by omega) (gf := 68) (lb := #[.pointer (some ⟨w.heap.size + 1 + 1 + 1, 0, none⟩), .pointer (some ⟨w.heap.size + 1 + 1 + 1 + 1, 0, none⟩)]) rfl trivial (enters_of Try.func68 (by kernel_rfl) rfl)
    (of_stops 8 (by omega) _ _ a hf W0 hc0 hA0 hB0) KeepB.t (KeepB.b (by rintro k (rfl | rfl | hk); omega; omega; have := hlt k hk; omega)) (Below.refl _ _) (fun _ => rfl)
    (fun pre W => CAt w (agg1 1 0 (pre.map Subtype.val) []) W ∧ W0.heap.size ≤ W.heap.size)
    (fun _ _ _ => False)
    (OwnFrom.and (cat_own (by omega) _) (fun _ _ _ _ hs hg _ => Nat.le_trans hs hg.size))
    (fun _ _ _ _ _ hs _ _ => hs)
    ⟨hC0, Nat.le_refl _⟩
    (fun x a' W => ∃ Bx, W0.heap.size ≤ Bx ∧ W.heap[Bx]? = some (.cells #[.int .i64 x.1.core, .int .u64 x.1.cell, .bool x.1.write] 91 (0, 0)) ∧ a' = { tmps := #[.pointer (some ⟨p, 0, none⟩), .int .i64 a, .int .i64 b, undef, undef, undef, .slice none 0 0, .pointer (some ⟨w.heap.size + 1, 0, none⟩), .pointer (some ⟨w.heap.size + 1 + 1, 0, none⟩), .pointer (some ⟨Bx, 0, none⟩), undef, undef, undef, undef, .pointer (some ⟨p, 0, none⟩), .bool false, .bool false, .int .i64 a, .int .i64 b, .bool false, .bool false, .map (some w.heap.size), .func (.func 52) #[] #[.pointer (some ⟨w.heap.size + 1, 0, none⟩)], .pointer (some ⟨p, 0, none⟩), .int .i64 a, .func (.func 68) #[] #[.pointer (some ⟨w.heap.size + 1 + 1 + 1, 0, none⟩), .pointer (some ⟨w.heap.size + 1 + 1 + 1 + 1, 0, none⟩)], tval x.1, undef, undef, undef, undef, undef, undef, undef, undef, undef, undef, undef, undef, undef, undef, undef, undef, undef, undef, undef, undef, undef, undef, undef, undef, undef, undef, undef, undef, undef, undef, undef, undef, undef, undef, undef, undef, undef, undef, undef, undef], defers := [] })
    ?ax ?assign ?body ?done ?stop
  case ax =>
    rintro x a' _ X Y row ⟨Bx, h1, h2, h3⟩ hg hr
    refine ⟨Bx, h1, (hg.block Bx (blk_lt h2) (fun e => ?_)).trans h2, h3⟩
    obtain ⟨_, o, ho, hc⟩ := hr Bx e.symm
    rw [h2] at ho
    cases ho
    cases hc
  case assign =>
    rintro l pre ⟨x, hxwf⟩ W K ⟨hi, hsW⟩ hK
    simp only [tval]
    gi_wp2
    refine hK _ _ ((KeepsOthers.alloc _ _).from _) (fun k hk => hp_old W _ ?_) ⟨hi.alloc _, by simp; omega⟩ ⟨W.heap.size, hsW, hp_new _ _ rfl, rfl⟩
    rcases hk with rfl | rfl | hk
    · omega
    · omega
    · have := hlt k hk; omega
  case body =>
    rintro l pre x a' W hl ⟨r, hr⟩ ⟨hC, hsW⟩ ⟨Bx, hBx, hb, rfl⟩ hlen
    obtain ⟨x, hxwf⟩ := x
    have q0 : W.cell? ⟨Bx, 0, none⟩ = some (.int .i64 x.core) := cl_of hb 0
    have q1 : W.cell? ⟨Bx, 1, none⟩ = some (.int .u64 x.cell) := cl_of hb 1
    have q2 : W.cell? ⟨Bx, 2, none⟩ = some (.bool x.write) := cl_of hb 2
    have q3 : W.cell? ⟨w.heap.size + 1 + 1, 0, none⟩ = some (.func (.func 52) #[] #[.pointer (some ⟨w.heap.size + 1, 0, none⟩)]) := cl_of hC.fbox 0
    have hcl := agg1_clt (a := 1) (b := 0) (by omega) (by omega) (pre.map Subtype.val) clt_nil
    have HC := addc_any hC.mbox hC.map x hxwf 1 0 _ (by omega) (by omega) hcl (by simp; omega)
    have HCC := Lib.hid HC
    clear HC hcl
    have HW := Lib.hid hxwf
    unfold tval
    gi_wp2_with fail
    refine ⟨trivial, ?_⟩
    refine (CallsIn.inRound l (callsIn_wide.2 HCC.out)).mono ?_
    rintro e W' ⟨rfl, hm', hf'⟩
    gi_wp2_with fail
    refine ⟨cat_keeps hf' _ (by omega), cat_keepb hf' ?_, ?_, Nat.le_trans hsW hf'.size⟩
    · rintro k (rfl | rfl | hk)
      · omega
      · omega
      · have := hlt k hk; omega
    · simp only [List.map_append, List.map_cons, List.map_nil, agg1_snoc]
      exact cat_step hC hm' hf'
  case done =>
    rintro D ys W hD rfl ⟨hC, hsW⟩ hK
    have hcM := agg1_clt (a := 1) (b := 0) (by omega) (by omega) ((ofc a SW).map Subtype.val) clt_nil
    have hM2 : (agg1 0 1 ((ofc b SW).map Subtype.val) (agg1 1 0 ((ofc a SW).map Subtype.val) [])).length ≤ 255 := hM
    have HO : Hid (cagg a b SW = agg1 0 1 ((ofc b SW).map Subtype.val) (agg1 1 0 ((ofc a SW).map Subtype.val) [])) := rfl
    have hla : (ofc a SW).length ≤ SW.length := List.length_filter_le _ _
    have hlb : (ofc b SW).length ≤ SW.length := List.length_filter_le _ _
    have hcM' : CLt 10000 (agg1 1 0 ((ofc a SW).map Subtype.val) []) := clt_mono hcM (by simp; omega)
    clear hcM hM
    generalize agg1 1 0 ((ofc a SW).map Subtype.val) [] = M1 at *
    have hcW := h.fr (Fr.of_below (S := fun _ => False) hC.below) (fun _ _ => id)
    go_wp2_with (go_at_call 53; refine (callsIn_wide.1 (of_in 9 _ _ _)).mono ?_; rintro e w' ⟨rfl, rfl⟩)
    obtain ⟨n1, hn1⟩ : ∃ n1, n1 = W.heap.size := ⟨_, rfl⟩
    obtain ⟨W1, hW1, hsz1, hC1, hA1, hB1, hc1, hD1⟩ : ∃ W1 : World, (W.alloc (.cells #[.pointer (some ⟨p, 0, none⟩)] 25)).alloc (.cells #[.int .i64 b] 3) = W1 ∧ W1.heap.size = n1 + 2 ∧ CAt w M1 W1 ∧
        W1.heap[n1]? = some (.cells #[.pointer (some ⟨p, 0, none⟩)] 25 (0, 0)) ∧ W1.heap[n1 + 1]? = some (.cells #[.int .i64 b] 3 (0, 0)) ∧ CellsAt W1 p m sv on N (SW.map Subtype.val) ∧ W1.heap[D]? = some (.deferred (some [])) := by
      refine ⟨_, rfl, by simp [hn1], (hC.alloc _).alloc _, ?_, ?_, (hcW.alloc _).alloc _, blk_old (blk_old hK _) _⟩
      · rw [hp_old _ _ (by simp [hn1]), hp_new _ _ hn1]
      · rw [hp_new _ _ (by simp [hn1])]
    rw [hW1, ← hn1]
    have hDl : D < n1 := by rw [hn1]; exact blk_lt hK
    have hn1' : w.heap.size + 5 ≤ n1 := by omega
    clear hW1 hC hcW hK hA0 hB0 hc0 hn1
    refine (wpIn_wide (n := 9)).1 ?_
    refine wpIn_rangeFunc_ownH rfl (by omega) (gf := 68) (lb := #[.pointer (some ⟨n1, 0, none⟩), .pointer (some ⟨n1 + 1, 0, none⟩)]) rfl trivial (enters_of Try.func68 (by kernel_rfl) rfl)
      (of_stops 8 (by omega) _ _ b hf W1 hc1 hA1 hB1) KeepB.t (KeepB.b (by rintro k (rfl | rfl | hk); omega; omega; have := hlt k hk; omega)) (Below.refl _ _) (fun _ => rfl)
      (fun pre W => CAt w (agg1 0 1 (pre.map Subtype.val) M1) W ∧ W1.heap.size ≤ W.heap.size ∧ W.heap[D]? = some (.deferred (some [])))
      (fun _ _ _ => False)
      (OwnFrom.and (cat_own (by omega) _) (fun _ _ _ _ hs hg hr => ⟨Nat.le_trans hs.1 hg.size, (hg.block D (blk_lt hs.2) (fun e => by have := (hr D e.symm).1; omega)).trans hs.2⟩))
      (fun _ _ _ _ _ hs _ _ => hs)
      ⟨hC1, Nat.le_refl _, hD1⟩
      (fun x a' W => ∃ Bx, W1.heap.size ≤ Bx ∧ W.heap[Bx]? = some (.cells #[.int .i64 x.1.core, .int .u64 x.1.cell, .bool x.1.write] 91 (0, 0)) ∧ a' = { tmps := #[.pointer (some ⟨p, 0, none⟩), .int .i64 a, .int .i64 b, undef, undef, undef, .slice none 0 0, .pointer (some ⟨w.heap.size + 1, 0, none⟩), .pointer (some ⟨w.heap.size + 1 + 1, 0, none⟩), undef, .pointer (some ⟨Bx, 0, none⟩), undef, undef, undef, .pointer (some ⟨p, 0, none⟩), .bool false, .bool false, .int .i64 a, .int .i64 b, .bool false, .bool false, .map (some w.heap.size), .func (.func 52) #[] #[.pointer (some ⟨w.heap.size + 1, 0, none⟩)], .pointer (some ⟨p, 0, none⟩), .int .i64 a, .func (.func 68) #[] #[.pointer (some ⟨w.heap.size + 1 + 1 + 1, 0, none⟩), .pointer (some ⟨w.heap.size + 1 + 1 + 1 + 1, 0, none⟩)], undef, undef, undef, undef, .pointer (some ⟨p, 0, none⟩), .int .i64 b, .func (.func 68) #[] #[.pointer (some ⟨n1, 0, none⟩), .pointer (some ⟨n1 + 1, 0, none⟩)], tval x.1, undef, undef, undef, undef, undef, undef, undef, undef, undef, undef, undef, undef, undef, undef, undef, undef, undef, undef, undef, undef, undef, undef, undef, undef, undef, undef, undef, undef, undef, undef, undef, undef, undef], defers := [] })
      ?ax2 ?assign2 ?body2 ?done2 ?stop2
    case ax2 =>
      rintro x a' _ X Y row ⟨Bx, h1, h2, h3⟩ hg hr
      refine ⟨Bx, h1, (hg.block Bx (blk_lt h2) (fun e => ?_)).trans h2, h3⟩
      obtain ⟨_, o, ho, hc⟩ := hr Bx e.symm
      rw [h2] at ho
      cases ho
      cases hc
    case assign2 =>
      rintro l pre ⟨x, hxwf⟩ W K ⟨hi, hsW, hDW⟩ hK
      simp only [tval]
      gi_wp2
      refine hK _ _ ((KeepsOthers.alloc _ _).from _) (fun k hk => hp_old W _ ?_) ⟨hi.alloc _, by simp; omega, blk_old hDW _⟩ ⟨W.heap.size, hsW, hp_new _ _ rfl, rfl⟩
      rcases hk with rfl | rfl | hk
      · omega
      · omega
      · have := hlt k hk; omega
    case body2 =>
      rintro l pre x a' W hl ⟨r, hr⟩ ⟨hC, hsW, hDW⟩ ⟨Bx, hBx, hb, rfl⟩ hlen
      obtain ⟨x, hxwf⟩ := x
      have q0 : W.cell? ⟨Bx, 0, none⟩ = some (.int .i64 x.core) := cl_of hb 0
      have q1 : W.cell? ⟨Bx, 1, none⟩ = some (.int .u64 x.cell) := cl_of hb 1
      have q2 : W.cell? ⟨Bx, 2, none⟩ = some (.bool x.write) := cl_of hb 2
      have q3 : W.cell? ⟨w.heap.size + 1 + 1, 0, none⟩ = some (.func (.func 52) #[] #[.pointer (some ⟨w.heap.size + 1, 0, none⟩)]) := cl_of hC.fbox 0
      have hcl := agg1_clt (a := 0) (b := 1) (by omega) (by omega) (pre.map Subtype.val) hcM'
      have HC := addc_any hC.mbox hC.map x hxwf 0 1 _ (by omega) (by omega) hcl (by simp; omega)
      have HCC := Lib.hid HC
      clear HC hcl
      have HW := Lib.hid hxwf
      unfold tval
      gi_wp2_with fail
      refine ⟨trivial, ?_⟩
      refine (CallsIn.inRound l (callsIn_wide.2 HCC.out)).mono ?_
      rintro e W' ⟨rfl, hm', hf'⟩
      gi_wp2_with fail
      refine ⟨cat_keeps hf' _ (by omega), cat_keepb hf' ?_, ?_, Nat.le_trans hsW hf'.size, (hf'.block D (blk_lt hDW) (by omega)).trans hDW⟩
      · rintro k (rfl | rfl | hk)
        · omega
        · omega
        · have := hlt k hk; omega
      · simp only [List.map_append, List.map_cons, List.map_nil, agg1_snoc]
        exact cat_step hC hm' hf'
    case stop2 =>
      rintro D c pre W _ _ h _
      exact h.elim
    case done2 =>
      rintro D2 ys W2 hD2 rfl ⟨hC2, hsW2, hDW⟩ hK2
      have q5 : W2.cell? ⟨w.heap.size + 1, 0, none⟩ = some (.map (some w.heap.size)) := cl_of hC2.mbox 0
      have hDD : D ≠ D2 := by omega
      clear hcM' hla hlb hA1 hB1 hc1 hC1 hD1 hC0
      generalize agg1 0 1 ((ofc b SW).map Subtype.val) M1 = M at *
      have hszM : (cnts M).length ≤ 255 := by simpa [cnts] using hM2
      have hfst : (cnts M).map Prod.fst = M.map Prod.fst := by simp [cnts]
      have hBx : (W2.alloc (.cells #[.map (some w.heap.size)] 89)).cell? ⟨W2.heap.size, 0, none⟩ = some (.map (some w.heap.size)) := (cl_of (hp_new W2 (.cells #[.map (some w.heap.size)] 89) rfl) 0).trans rfl
      have hS := sorted_any W2.heap.size w.heap.size (cnts M) hszM (W2.alloc (.cells #[.map (some w.heap.size)] 89)) (by simp) hBx (hC2.alloc _).map
      rw [hfst] at hS
      have HS := Lib.hid hS
      clear hS hBx hszM hfst
      go_wp2_with (go_at_call 55; refine (callsIn_wide.1 (keys_in 9 _ _)).mono ?_; rintro e w' ⟨rfl, rfl⟩)
      refine HS.out.mono ?_
      rintro e W4 ⟨v, ts, rfl, hts, hrow, hB4⟩
      have HTS := Lib.hid hts
      have hC4 := (hC2.alloc (.cells #[.map (some w.heap.size)] 89)).of_below hB4
      have hD4 := bblk hB4 (blk_old hDW (.cells #[.map (some w.heap.size)] 89))
      have hK4 := bblk hB4 (blk_old hK2 (.cells #[.map (some w.heap.size)] 89))
      clear HS hts hC2 hDW hK2 q5
      have hbase : w.heap.size ≤ (W2.alloc (.cells #[.map (some w.heap.size)] 89)).heap.size := by simp; omega
      generalize (W2.alloc (.cells #[.map (some w.heap.size)] 89)).heap.size = n2 at *
      clear hB4
      have q6 : W4.cell? ⟨w.heap.size + 1, 0, none⟩ = some (.map (some w.heap.size)) := cl_of hC4.mbox 0
      rcases hrow.2 with ⟨rfl, h0⟩ | ⟨g, cap, cur, rfl, hg0, hr⟩
      · obtain rfl : ts = [] := List.eq_nil_of_length_eq_zero h0
        go_wp2_with fail
        refine wp_loop_rounds 1 ?_
        rw [rounds_succ]
        go_wp2_with fail
        have hD5 : (W4.putObj D2 (.deferred none)).heap[D]? = some (.deferred (some [])) := (World.putObj_heap_other (by omega)).trans hD4
        refine ⟨by simp, .inl ⟨_, _, rfl, run_takeDeferred hK4, by simp, .inl ⟨_, _, rfl, run_takeDeferred hD5, ?_⟩⟩⟩
        have b1 := belowK_b (w := w) (Nat.le_refl _) W4 D2 _ (.deferred none) (by omega) hK4 rfl rfl
        have b2 := belowK_b (w := w) (Nat.le_refl _) (W4.putObj D2 (.deferred none)) D _ (.deferred none) (by omega) hD5 rfl rfl
        exact ⟨_, results_tmp rfl _ _ _, _, [], rfl, by rw [HO.out, ← HTS.out]; rfl, World.ownsRow_nil _ _ _ _, (hC4.below.trans b1).trans b2⟩
      · clear hr
        have hrow' : W4.ownsRow n2 30 1 (.slice (some ⟨g, 0, none⟩) ts.length cap) ts.length (ts.map (Value.int .u64)) := hrow
        have hgl : g < W4.heap.size := ownsRow_ltb hrow' rfl
        have htl : ts.length ≤ 255 := by rw [HTS.out]; simpa using hM2
        obtain ⟨i0, hi, hz0, hz1, hz2⟩ := info_parts Try.infoKey
        go_wp2_with fail
        go_loopw [6, 41] (fun v6 v41 wr => ∃ k : Nat, k ≤ ts.length ∧ v41 = .int .i64 k ∧ wr.ownsRow W4.heap.size 30 1 v6 (clashes M (ts.take k)).length ((clashes M (ts.take k)).map (Value.int .u64)) ∧ Below W4.heap.size W4 wr) (fun _ v41 _ => ts.length - (intOf v41).toNat)
        case atStart => exact ⟨0, Nat.zero_le _, rfl, by simpa [clashes] using World.ownsRow_nil W4 _ _ _, Below.refl _ _⟩
        case round =>
          obtain ⟨k, hk, rfl, hro, hBr⟩ := hrel
          by_cases hlt2 : k < ts.length
          · have HW := hC4.of_below hBr
            have hcg : wr.cell? ⟨g, k, none⟩ = some (.int .u64 ts[k]) := (hBr.cell (p := ⟨g, k, none⟩) hgl).trans (ownsRow_cell (ownsRow_zero hrow') rfl (by simp [hlt2]))
            have q7 : wr.cell? ⟨w.heap.size + 1, 0, none⟩ = some (.map (some w.heap.size)) := cl_of HW.mbox 0
            have hlk := HW.map.look_cnt ts[k]
            have hcs := clashes_succ M ts k hlt2
            have hcl : (clashes M (ts.take k)).length ≤ k := by
              have h1 : (clashes M (ts.take k)).length ≤ (ts.take k).length := List.length_filter_le _ _
              rw [List.length_take] at h1
              omega
            generalize ts[k] = x at *
            have HCS := Lib.hid hcs
            clear hcs HW
            generalize (cget x M).f = F at *
            generalize (cget x M).s = S' at *
            generalize (cget x M).w = G at *
            have hmeas : (wr.alloc (.cells #[.int .i64 F, .int .i64 S', .int .i64 G] 93)).ownsRow W4.heap.size 30 1 u6 (clashes M (ts.take k)).length ((clashes M (ts.take k)).map (Value.int .u64)) := hro.alloc _
            by_cases p1 : 0 < F
            · by_cases p2 : 0 < S'
              · by_cases p3 : 0 < G
                · have hl2 : (clashes M (ts.take k)).length + 1 ≤ maxLen := by unfold maxLen; omega
                  have hsW4 := hBr.size
                  go_wp2_with (at_builtin; refine wpList_append_own _ rfl _ _ 33 rfl W4.heap.size 30 i0 (.int .u64 0) 1 8 Try.underlying33 hi hz0 hz1 hz2 rfl (by decide) _ _ _ rfl (hmeas.alloc _) ⟨wr.heap.size + 1, 0, none⟩ 1 1 [.int .u64 x] rfl rfl ?_ (by simp [Value.oneCell']) hl2 (by omega) (by simp; omega) ?_)
                  · intro j u hj
                    rw [Addr.add_lit, Nat.zero_add, cl_of (hp_new (wr.alloc (.cells #[.int .i64 F, .int .i64 S', .int .i64 G] 93)) (.cells #[.int .u64 x] 30) (by simp))]
                    simpa using hj
                  intro v' w1 hown' hgrow _
                  obtain ⟨g', cap', rfl⟩ := ownsRow_succ hown'
                  have hB2 : Below W4.heap.size W4 w1 := ((hBr.alloc hBr.size _).alloc (by simp; omega) _).grown hgrow (by simp; omega) (fun j ej => ((hmeas.alloc (.cells #[.int .u64 x] 30)).lt j ej).1)
                  go_wp2_with fail
                  go_roundw
                  case rel => exact ⟨k + 1, by omega, by go_num, by rw [HCS.out, if_pos (by simp; omega)]; simpa using hown', hB2⟩
                  case measure => simp [intOf]; omega
                · go_wp2_with fail
                  go_roundw
                  case rel => exact ⟨k + 1, by omega, by go_num, by rw [HCS.out, if_neg (by simp; omega)]; exact hmeas, hBr.alloc hBr.size _⟩
                  case measure => simp [intOf]; omega
              · go_wp2_with fail
                go_roundw
                case rel => exact ⟨k + 1, by omega, by go_num, by rw [HCS.out, if_neg (by simp; omega)]; exact hmeas, hBr.alloc hBr.size _⟩
                case measure => simp [intOf]; omega
            · go_wp2_with fail
              go_roundw
              case rel => exact ⟨k + 1, by omega, by go_num, by rw [HCS.out, if_neg (by simp; omega)]; exact hmeas, hBr.alloc hBr.size _⟩
              case measure => simp [intOf]; omega
          · obtain rfl : k = ts.length := by omega
            have hD6 := bblk hBr hD4
            have hK6 := bblk hBr hK4
            go_wp2_with fail
            have hD5 : (wr.putObj D2 (.deferred none)).heap[D]? = some (.deferred (some [])) := (World.putObj_heap_other (by omega)).trans hD6
            refine ⟨by simp, .inl ⟨_, _, rfl, run_takeDeferred hK6, by simp, .inl ⟨_, _, rfl, run_takeDeferred hD5, ?_⟩⟩⟩
            have b1 := belowK_b (w := w) (Nat.le_refl _) wr D2 _ (.deferred none) (by omega) hK6 rfl rfl
            have b2 := belowK_b (w := w) (Nat.le_refl _) (wr.putObj D2 (.deferred none)) D _ (.deferred none) (by omega) hD5 rfl rfl
            rw [List.take_length] at hro
            have hlw := hC4.below.size
            refine ⟨_, results_tmp rfl _ _ _, _, _, rfl, by rw [HO.out, ← HTS.out], ownsRow_base (ownsRow_putObj (ownsRow_putObj hro _ hK6 rfl) _ hD5 rfl) hlw, ((hC4.below.trans (hBr.mono hlw)).trans b1).trans b2⟩
  case stop =>
    rintro D c pre W _ _ h _
    exact h.elim
end Go.Proofs.Ythmabnigdnbdkaa
