/- A range over a function that is a method of a value: the receiver stands ahead of the body. maps.Keys at what a transaction wrote; its iterator each. What a body keeps that appends while a transaction's iterator goes. Package tx: Commit. -/
import Derived.Test.YtjjphcnoegaimaaGreatGA
import Derived.Test.YtjjphcnoegaimaaGreatGN
import Derived.Test.YtjjphcnoegaimaaGreatGB
namespace Go.Proofs.YtjjphcnoegaimaaGreat
open Go.RowKit
set_option linter.unusedVariables false

/-- What an iterator that is a method gives, whatever the body does: its receiver ahead of the body. -/
def SeqB {α : Type} (n : Nat) (P : Program) (g : Nat) (rv : Value) (encs : α → Array Value) (Kp : World → World → Prop) (S : List α → Prop) (N : Nat) (w : World) : Prop :=
  ∀ (l : Nat) (J : List α → World → Prop) (W : World), Below w.heap.size w W → AbidesFrom W.heap.size J →
    (∀ pre x W1, J pre W1 → pre.length < N → YieldAt Fence.wide (n - 1) P l (encs x) W1 fun e W' => e = .returned (.bool true) ∧ J (pre ++ [x]) W' ∧ Kp W1 W') →
    J [] W → CallsIn Fence.wide n P g #[rv, .func (.yield l) #[] #[]] W fun e W' => (∃ v, e = .returned v) ∧ ∃ xs, S xs ∧ J xs W'

theorem blkLt {W : World} {b : Nat} {o : Obj} (h : W.heap[b]? = some o) : b < W.heap.size := (Array.getElem?_eq_some_iff.1 h).1
variable {n : Nat} {P : Program}
/-- How a round is left that goes on. -/
def goesPost {α : Type} (Kp : World → World → Prop) (I : List α → World → Prop) (xs : List α) (W : World) : Exit → Act → World → Prop
  | .normal, _, W' => KeepsOthers W W' ∧ Kp W W' ∧ I xs W'
  | _, _, _ => False

theorem wpIn_rangeBound {α : Type} {g : Operand} {ps : Array Tmp} {assign body : Code} {Q : Exit → Act → World → Prop} {a : Act} {w : World}
    (h1 : 1 ≤ n) {gf : Nat} {rv : Value} (hg : a.eval g = .func (.func gf) #[rv] #[]) (eg : ∀ args w, (callFunc gf args).run P w = .ok (.enter gf args) w)
    {encs : α → Array Value} {Kp : World → World → Prop} {S : List α → Prop} {N : Nat} {w0 : World} (hseq : SeqB (n - 1) P gf rv encs Kp S N w0)
    (hKt : ∀ {A B C : World}, Kp A B → Kp B C → Kp A C) (hKb : ∀ (W : World) (l : Nat) (o o' : Obj), w.heap.size ≤ l → W.heap[l]? = some o → o.isCells = false → o.isWalk = false → Kp W (W.putObj l o')) (hb0 : Below w0.heap.size w0 w) (hps : ∀ x, (encs x).size = ps.size)
    (I : List α → World → Prop) (hI : OwnFrom w.heap.size I) (h0 : I [] w) (a₁ : α → Act)
    (hassign : ∀ (l : Nat) (x : α) (W : World) (K : Act → World → Prop), K (a₁ x) W →
      assign.wpIn (Fence.wide.inRound l) (n - 1 - 1) P (Exit.then K (fun _ _ _ => False)) { tmps := (ps.zip (encs x)).foldl (fun t (p, v) => t.setIfInBounds p v) a.tmps, defers := [] } W)
    (hbody : ∀ (l : Nat) (pre : List α) (x : α) (W : World), I pre W → pre.length < N → body.wpIn (Fence.wide.inRound l) (n - 1 - 1) P (goesPost Kp I (pre ++ [x]) W) (a₁ x) W)
    (hdone : ∀ (D : Nat) (xs : List α) (W : World), w.heap.size ≤ D → S xs → I xs W → W.heap[D]? = some (.deferred (some [])) → Q .normal { a with defers := { target := .collected D, args := #[] } :: a.defers } W) :
    (Code.rangeFunc g ps assign body).wpIn Fence.wide n P Q a w := by
  refine wpIn_rangeFunc ?_
  intro fn hfn
  rw [show Fence.wide.round = none from rfl]
  obtain ⟨rec, hrec⟩ : ∃ rec : LoopState → Option Code → Loop, rec = fun st pe => { state := st, pending := pe, fn, tmps := a.tmps, params := ps, assign, body, defers := w.heap.size } := ⟨_, rfl⟩
  obtain ⟨W1, hW1⟩ : ∃ W1, (w.alloc (.deferred (some []))).alloc (.loop (rec .ready none)) = W1 := ⟨_, rfl⟩
  have hL1 : W1.heap[w.heap.size + 1]? = some (.loop (rec .ready none)) := by
    rw [← hW1]
    exact hp_new _ _ (by simp)
  have hK1 : W1.heap[w.heap.size]? = some (.deferred (some [])) := by
    rw [← hW1]
    exact (hp_old _ _ (by simp)).trans (hp_new _ _ rfl)
  have hI1 : I [] W1 := by rw [← hW1]; exact hI.alloc _ (hI.alloc _ h0)
  have hb1 : Below w0.heap.size w0 W1 := by
    rw [← hW1]
    exact hb0.trans ((((Below.refl _ w).alloc (Nat.le_refl _) _).alloc (by simp) _).mono hb0.size)
  have hwide : ∀ f, Fence.wide.fn f := fun _ => trivial
  refine ⟨w.heap.size + 1, [{ target := .collected w.heap.size, args := #[] }], W1, { target := .fn (.func gf) #[], args := #[rv, .func (.yield (w.heap.size + 1)) #[] #[]] }, W1, gf,
    #[rv, .func (.yield (w.heap.size + 1)) #[] #[]], W1, ?_, ?_, ?_, ?_, fun _ => h1, ?_⟩
  · rw [← hW1, hrec]; exact run_enterLoop_outer _ _ _ _ _
  · simp only [resolve, hg]
    simp [go_sem]
  · intro f' _
    exact trivial
  · simp [invoke, go_sem, eg]
  · have hnw : ∀ {A : World} {row : Option Nat}, (∀ r, row = some r → W1.heap.size ≤ r ∧ ∃ o : Obj, A.heap[r]? = some o ∧ o.isWalk = true) → (∀ r, row = some r → w.heap.size ≤ r ∧ ∃ o : Obj, A.heap[r]? = some o ∧ o.isCells = false) :=
      fun hr r e => by obtain ⟨hB, o, ho, hw⟩ := hr r e; exact ⟨by rw [← hW1] at hB; simp at hB; omega, o, ho, Obj.not_cells_of_walk hw⟩
    refine (hseq (w.heap.size + 1)
      (fun pre W => I pre W ∧ W.heap[w.heap.size + 1]? = some (.loop (rec .ready none)) ∧ W.heap[w.heap.size]? = some (.deferred (some [])))
      W1 hb1
      (fun s A B row hs hg' hr => ⟨hI s A B row hs.1 hg' (hnw hr), (grownBy_keeps hg' (fun r e => (hr r e).2) hs.2.1 rfl).trans hs.2.1, (grownBy_keeps hg' (fun r e => (hr r e).2) hs.2.2 rfl).trans hs.2.2⟩)
      ?_ ⟨hI1, hL1, hK1⟩).mono ?_
    · rintro pre x W ⟨hi, hl, hk⟩ hlen
      have hlt := blkLt hl
      have hy := run_yield (P := P) (args := encs x) hl (by rw [hrec]; exact hps x)
      rw [hrec] at hy
      refine ⟨fn, _, assign, body, hy, roundIn_of_wpIn hfn (hassign _ x W _ ⟨_, run_beginRound hl (by rw [hrec]), ?_⟩)⟩
      obtain ⟨Wb, hWb⟩ : ∃ Wb, W.putObj (w.heap.size + 1) (.loop { rec .ready none with state := .busy }) = Wb := ⟨_, rfl⟩
      have hl2 : Wb.heap[w.heap.size + 1]? = some (.loop { rec .ready none with state := .busy }) := by rw [← hWb]; exact World.putObj_heap_same hlt
      have hk2 : Wb.heap[w.heap.size]? = some (.deferred (some [])) := by rw [← hWb]; exact (World.putObj_heap_other (by omega)).trans hk
      have hw2 : Kp W Wb := by rw [← hWb]; exact hKb _ _ _ _ (by omega) hl rfl rfl
      have hi2 : I pre Wb := by rw [← hWb]; exact hI.putObj _ hi (by omega) hl rfl
      rw [hWb]
      refine wpIn_mono (hbody _ pre x _ hi2 hlen) ?_
      rintro e a3 W3 hp
      cases e with
      | normal =>
        obtain ⟨hk3, hkp3, hi3⟩ := hp
        have hl3 := hk3.same _ _ hl2 rfl
        have hr := run_endRound (P := P) none hl3
        rw [hrec] at hr hl3
        refine ⟨_, _, hr, rfl, ⟨hI.putObj _ hi3 (by omega) hl3 rfl, ?_, (World.putObj_heap_other (by omega)).trans (hk3.same _ _ hk2 rfl)⟩, hKt (hKt hw2 hkp3) (hKb _ _ _ _ (by omega) hl3 rfl rfl)⟩
        rw [hrec]
        exact World.putObj_heap_same (blkLt hl3)
      | ret => exact hp.elim
      | exit id => exact hp.elim
      | goto t => exact hp.elim
      | panic ch => exact hp.elim
      | outgrown => exact hp.elim
    · rintro e W2 ⟨⟨v, rfl⟩, xs, hS, hi, hl, hk⟩
      have hend := run_endLoop (P := P) hl (by rw [hrec]; simp)
      rw [hrec] at hend
      exact ⟨none, _, hend, hdone _ xs _ (Nat.le_refl _) hS (hI.putObj _ hi (by omega) hl rfl) ((World.putObj_heap_other (by omega)).trans hk)⟩
end Go.Proofs.YtjjphcnoegaimaaGreat

namespace Go.Proofs.YtjjphcnoegaimaaGreat
open Go.RowKit Go.Shelf Go.Maps
attribute [local go_sem] Oper.semAt_some
set_option maxRecDepth 20000
set_option linter.unusedVariables false

set_option maxRecDepth 100000 in
set_option maxHeartbeats 1000000 in
theorem keysT1_in (n l Bm b : Nat) (hn : 1 ≤ n) (L : List (Int × Value)) (J Jx : List Int → World → Prop)
    (hY : ∀ pre x W, J pre W → pre.length < L.length → YieldAt Fence.wide (n - 1) Tryz.prog l #[.int .i64 x] W fun e W' =>
      (e = .returned (.bool true) ∧ J (pre ++ [x]) W' ∧ KeepsWalks W W') ∨ (e = .returned (.bool false) ∧ Jx (pre ++ [x]) W'))
    (W : World) (hJ : AbidesFrom W.heap.size J) (hm : W.cell? ⟨Bm, 0, none⟩ = some (.map (some b))) (hmap : MapS W b .i64 L) (hL : L.length ≤ maxLen) (h0 : J [] W) :
    CallsIn Fence.wide n Tryz.prog 104 #[.func (.yield l) #[] #[], .pointer (some ⟨Bm, 0, none⟩)] W fun e W' => (∃ v, e = .returned v) ∧
      ((∃ ss : List Int, ss.Perm (L.map Prod.fst) ∧ J ss W') ∨ (∃ pre : List Int, True ∧ Jx pre W')) := by
  obtain ⟨D0, hown, hD⟩ := hmap.owns Tryz.underlying3 hL
  have hnd := hmap.nodup
  have HN := Lib.hid hnd
  have HD := Lib.hid hD
  have HL : (L.map Prod.fst).length = L.length := by simp
  clear hmap hnd hD
  refine callsIn_of_wp Tryz.func104 rfl trivial ?_ rfl
  simp only [Tryz.ntmps104, List.size_toArray, List.length_cons, List.length_nil, Nat.reduceAdd, Nat.reduceSub, Array.replicate_succ, Array.replicate_zero, List.push_toArray, List.append_toArray, List.nil_append, List.cons_append]
  gi_wp2_with (first | (gi_at_range; refine wpListIn_range_own _ rfl _ 100 rfl 3 9 (int_keyed Tryz.underlying3) Tryz.underlying100 anyR b L.length _ rfl hown ?_; intro w0 hrg0 hg0 hs0) | gi_in)
  go_frame
  gi_loopw [3] (fun _ wr => ∃ (left : Lit → Bool) (cnt : Nat) (ss : List Int), wr.ranges Tryz.prog 3 anyR b W.heap.size L.length D0 left cnt ∧ Came .i64 D0 left ss ∧ J ss wr)
    (fun _ wr => wr.rangeLeft b W.heap.size)
  case atStart => exact ⟨_, _, [], hrg0, Came.start .i64 D0, hJ [] W w0 none h0 hg0 (fun r e => by cases e)⟩
  case round =>
    obtain ⟨left, cnt, ss, hrg, hC, hJs⟩ := hrel
    gi_wp2_with (first | (gi_at_next; refine wpListIn_next_ranges _ rfl _ rfl 3 (int_keyed Tryz.underlying3) anyR (Value.int .i64) id (fun key kl hk => by obtain ⟨x, hx, _⟩ := keyOf_q Tryz.underlying3 hk; exact ⟨x, hx⟩) (fun v _ _ => ⟨v, rfl⟩) b W.heap.size L.length _ _ _ rfl hrg ?_ ?_) | gi_in)
    · intro hc0 hl0
      gi_wp2
      go_end0
      exact ⟨⟨_, rfl⟩, .inl ⟨ss, hC.perm HN.out HD.out hl0, hJs⟩⟩
    · intro x c kl yd yp w2 cnt2 hkey hlk hv hat hrg2 hlt hg2 hs2 hen
      obtain ⟨x', ex, rfl, _⟩ := keyOf_q Tryz.underlying3 hkey
      obtain rfl : x = x' := by simpa using ex
      have hJ2 : J ss w2 := hJ ss wr w2 (some W.heap.size) hJs hg2 (fun r e => by cases e; exact ⟨Nat.le_refl _, hrg.iter_walk⟩)
      have hC2 := hC.step hlk hat
      have hl2 := hC2.len HD.out
      have hl3 : ss.length < L.length := by simp at hl2; omega
      obtain ⟨fn, tmps, assign, body, hy, hR⟩ := hY ss x w2 hJ2 hl3
      clear hs2 hl2
      gi_wp2
      refine hR.mono ?_
      rintro e W3 (⟨rfl, hJ3, hk3⟩ | ⟨rfl, hJx3⟩)
      · gi_wp2
        have hrg3 := hrg2.of_walks hk3
        go_roundw
        case rel => exact ⟨_, cnt2, ss ++ [x], hrg3, hC2, hJ3⟩
        case measure => rw [hrg3.left_eq, hrg.left_eq]; exact hlt
      · gi_wp2
        refine bodyPost_ret (results_none rfl _ _ _) rfl ?_
        exact ⟨⟨_, rfl⟩, .inr ⟨_, trivial, hJx3⟩⟩

theorem keysT_in (n : Nat) (mb : Option Nat) (w : World) :
    CallsIn Fence.wide n Tryz.prog 74 #[.map mb] w fun e w' => e = .returned (.func (.func 104) #[] #[.pointer (some ⟨w.heap.size, 0, none⟩)]) ∧ w.alloc (.cells #[.map mb] 100) = w' := by
  refine callsIn_of_wp Tryz.func74 rfl trivial ?_ rfl
  simp only [Tryz.ntmps74, List.size_toArray, List.length_cons, List.length_nil, Nat.reduceAdd, Nat.reduceSub, Array.replicate_succ, Array.replicate_zero, List.push_toArray, List.append_toArray, List.nil_append, List.cons_append]
  gi_wp2
  go_ret
  exact ⟨rfl, rfl⟩

theorem keysT_stops (n : Nat) (hn : 1 ≤ n) (Bm b B : Nat) (L : List (Int × Value)) (hL : L.length ≤ maxLen) (w : World) (hBm : Bm < w.heap.size)
    (hm : w.cell? ⟨Bm, 0, none⟩ = some (.map (some b))) (hmap : MapS w b .i64 L) :
    SeqStopsK Fence.wide n Tryz.prog 104 #[.pointer (some ⟨Bm, 0, none⟩)] (fun x : Int => #[Value.int .i64 x]) (ApKp B) (fun ss => ss.Perm (L.map Prod.fst)) (fun _ => True) L.length w :=
  fun l J Jx W hW hJ _ hY h0 => keysT1_in n l Bm b hn L J Jx (fun pre x W1 h1 h2 => YieldAt.mono (hY pre x W1 h1 h2) (fun _ _ h => h.imp (fun ⟨a, b, c⟩ => ⟨a, b, c.walks⟩) id)) W hJ ((hW.cell (p := ⟨Bm, 0, none⟩) hBm).trans hm) (hmap.of_block (hW.block b hmap.lt)) hL h0


set_option maxHeartbeats 2000000 in
theorem each_in (n l : Nat) (hn : 1 ≤ n) {tb p jb m : Nat} {M : Wl} {dn : Bool} (J : Wl → World → Prop) (Kp : World → World → Prop) (Q : World → Nat → Prop)
    (hKp : ∀ W1 W' g, Kp W1 W' → Q W1 g → Q W' g ∧ W'.heap[g]? = W1.heap[g]?)
    (hY : ∀ pre (x : Int × ByteArray) W, J pre W → pre.length < M.length → YieldAt Fence.wide (n - 1) Tryz.prog l #[.int .i64 x.1, .string x.2] W fun e W' => e = .returned (.bool true) ∧ J (pre ++ [x]) W' ∧ Kp W W')
    (W : World) (hJ : AbidesFrom W.heap.size J) (h : TxA W tb p jb m M dn) (hM : M.length ≤ 1000000) (hqt : ∀ W', Below W.heap.size W W' → Q W' tb ∧ Q W' m)
    (hQ0 : ∀ W' g cur, Below W.heap.size W W' → W.heap.size ≤ g → W'.heap[g]? = some (.cells cur 3 (0, 0)) → Q W' g) (h0 : J [] W) :
    CallsIn Fence.wide n Tryz.prog 47 #[.pointer (some ⟨tb, 0, none⟩), .func (.yield l) #[] #[]] W fun e W' => (∃ v, e = .returned v) ∧ ∃ xs, xs = M ∧ J xs W' := by
  obtain ⟨L, hmS, hmW⟩ := h.map
  have c2 : W.cell? ⟨tb, 2, none⟩ = some (.map (some m)) := cl_of h.obj 2
  have hkeys := hmW.sorted
  have hLn := hmW.length
  refine callsIn_of_wp Tryz.func47 rfl trivial ?_ rfl
  simp only [Tryz.ntmps47, List.size_toArray, List.length_cons, List.length_nil, Nat.reduceAdd, Nat.reduceSub, Array.replicate_succ, Array.replicate_zero, List.push_toArray, List.append_toArray, List.nil_append, List.cons_append]
  gi_wp2
  refine ⟨trivial, (keysT_in (n - 1) (some m) W).mono ?_⟩
  rintro e w1 ⟨rfl, hw1⟩
  have B1w : Below W.heap.size W w1 := by rw [← hw1]; exact bnew _ _
  have hm1 : MapS w1 m .i64 L := hmS.of_block (B1w.block m hmS.lt)
  have hk1 : w1.cell? ⟨W.heap.size, 0, none⟩ = some (.map (some m)) := by rw [← hw1]; exact cl_of (hp_new W _ rfl) 0
  have hs1 : w1.heap.size = W.heap.size + 1 := by rw [← hw1]; simp
  have HK := Lib.hid hkeys
  have HLn := Lib.hid hLn
  have HQ := Lib.hid hQ0
  have HS1 := Lib.hid hs1
  have HM := Lib.hid hM
  have HT := Lib.hid h
  have HMW := Lib.hid hmW
  clear hw1 hkeys hLn hQ0 hs1 hM h
  have B2 : Below w1.heap.size w1 (w1.alloc (.cells #[.slice none 0 0] 152)) := bnew _ _
  have hsort := sorted_gen (gf := 104) (lb := #[.pointer (some ⟨W.heap.size, 0, none⟩)]) (K := L.map Prod.fst) (N := L.length) (by rw [HLn.out]; exact HM.out) (by rw [List.length_map, HLn.out]; exact HM.out) w1 (fun _ _ => by rfl)
    (keysT_stops 8 (by decide) W.heap.size m w1.heap.size L (by rw [HLn.out]; have := HM.out; unfold maxLen; omega) _ (by have := B2.size; have := HS1.out; omega) ((B2.cell (p := ⟨W.heap.size, 0, none⟩) (by have := HS1.out; show W.heap.size < w1.heap.size; omega)).trans hk1) (hm1.of_block (B2.block m hm1.lt)))
  gi_wp2
  refine ⟨trivial, ((callsIn_wide (n := n - 1)).2 hsort).mono ?_⟩
  rintro e w2 ⟨v, ts, rfl, hts, hrow, hB2⟩
  rw [HK.out] at hts
  have hB : Below W.heap.size W w2 := bt B1w hB2
  have hJ2 : J [] w2 := hJ [] W w2 none h0 ⟨hB.os, hB.tape, hB.output, hB.size, fun k hk _ => hB.block k hk⟩ (fun r e => by cases e)
  have hT2 := HT.out.of hB
  have hq0 := hqt w2 hB
  clear hsort hmS hmW
  subst hts
  rcases hrow.2 with ⟨rfl, hz⟩ | ⟨g, cap, cur, rfl, hg0, hgb, hr⟩
  · have hy0 : M = [] := List.eq_nil_of_length_eq_zero (by simpa using hz)
    subst hy0
    gi_wp2
    gi_loopw [13] (fun i wr => i = .int .i64 0 ∧ J [] wr) (fun _ _ => 0)
    case atStart => exact ⟨rfl, hJ2⟩
    case round =>
      obtain ⟨rfl, hJs⟩ := hrel
      gi_wp2
      go_end0
      exact ⟨⟨_, rfl⟩, [], rfl, hJs⟩
  · have hq2 : Q w2 g := HQ.out w2 g cur hB (by have := HS1.out; omega) hgb
    clear hr
    have hKl : (M.map Prod.fst).length = M.length := by simp
    rw [hKl] at hrow ⊢
    generalize hN : M.length = N at *
    have HN := Lib.hid hN
    have hNb : N ≤ 1000000 := HM.out
    have HT2 := Lib.hid hT2
    clear hN hT2
    gi_wp2
    gi_loopw [13] (fun i wr => ∃ k : Nat, k ≤ N ∧ i = .int .i64 k ∧ J (M.take k) wr ∧ wr.heap[g]? = w2.heap[g]? ∧ Q wr g ∧ (wr.heap[tb]? = w2.heap[tb]? ∧ Q wr tb) ∧ (wr.heap[m]? = w2.heap[m]? ∧ Q wr m)) (fun i _ => N - (intOf i).toNat)
    case atStart => exact ⟨0, Nat.zero_le _, rfl, by simpa using hJ2, rfl, hq2, ⟨rfl, hq0.1⟩, rfl, hq0.2⟩
    case round =>
      obtain ⟨k, hk, rfl, hJs, hgr, hqr, ⟨htr, hqt'⟩, hmr, hqm⟩ := hrel
      by_cases hlt : k < N
      · have hky : k < M.length := by rw [HN.out]; exact hlt
        have hval : M[k]? = some M[k] := List.getElem?_eq_getElem hky
        have hTr := HT2.out.keep htr hmr
        have hrow' := ownsRow_of_block (W' := wr) (ownsRow_base hrow) (fun k hk => by cases hk; exact hgr)
        have q0 : wr.cell? ⟨g, k, none⟩ = some (.int .i64 M[k].1) := ownsRow_cell hrow' rfl (by simp [hval])
        have t2 : wr.cell? ⟨tb, 2, none⟩ = some (.map (some m)) := cl_of hTr.obj 2
        have htk : M.take (k + 1) = M.take k ++ [M[k]] := List.take_succ_eq_append_getElem hky
        have hJk : (M.take k).length < M.length := by rw [List.length_take]; omega
        have hgl : g < wr.heap.size := ownsRow_lt hrow' rfl
        have hlk := hTr.look M[k].1
        have hpg : pget M[k].1 M = some M[k].2 := mem_pget HMW.out.2.1 (List.getElem_mem hky)
        rw [hpg] at hlk
        clear hpg
        simp only [Option.getD_some] at hlk
        generalize M[k] = x at *
        have HT := Lib.hid htk
        have HV := Lib.hid hval
        rw [HN.out] at hJk
        obtain ⟨fn, tmps, assign, body, hy, hR⟩ := hY _ x _ hJs hJk
        clear htk hval hrow' hky hJk hTr
        gi_wp2
        refine hR.mono ?_
        rintro e W3 ⟨rfl, hJ3, hk3⟩
        have hnx := hKp _ _ g hk3 hqr
        have hnt := hKp _ _ tb hk3 hqt'
        have hnm := hKp _ _ m hk3 hqm
        gi_wp2
        go_roundw
        case rel => exact ⟨k + 1, by omega, by go_num, by rw [HT.out]; exact hJ3, hnx.2.trans hgr, hnx.1, ⟨hnt.2.trans htr, hnt.1⟩, hnm.2.trans hmr, hnm.1⟩
        case measure => simp [intOf]; omega
      · obtain rfl : k = N := by omega
        gi_wp2
        go_end0
        exact ⟨⟨_, rfl⟩, _, rfl, by rw [List.take_of_length_le (by rw [HN.out]; exact Nat.le_refl _)] at hJs; exact hJs⟩

/-- The iterator's contract, for any body that keeps the transaction and the row of its sectors. -/
theorem each_seq (n : Nat) (hn : 1 ≤ n) {tb p jb m : Nat} {M : Wl} {dn : Bool} (Kp : World → World → Prop) (Q : World → Nat → Prop)
    (hKp : ∀ W1 W' g, Kp W1 W' → Q W1 g → Q W' g ∧ W'.heap[g]? = W1.heap[g]?) (w : World) (h : TxA w tb p jb m M dn) (hM : M.length ≤ 1000000) (hqt : ∀ W', Below w.heap.size w W' → Q W' tb ∧ Q W' m)
    (hQ0 : ∀ W' g cur, Below w.heap.size w W' → w.heap.size ≤ g → W'.heap[g]? = some (.cells cur 3 (0, 0)) → Q W' g) :
    SeqB n Tryz.prog 47 (.pointer (some ⟨tb, 0, none⟩)) (fun x : Int × ByteArray => #[.int .i64 x.1, .string x.2]) Kp (fun zs => zs = M) M.length w :=
  fun l J W hW hJ hY h0 => each_in n l hn J Kp Q hKp hY W hJ (h.of hW) hM (fun W' hB => hqt W' (hW.trans (hB.mono hW.size))) (fun W' g cur hB hg hc => hQ0 W' g cur (hW.trans (hB.mono hW.size)) (Nat.le_trans hW.size hg) hc) h0
end Go.Proofs.YtjjphcnoegaimaaGreat

namespace Go.Proofs.YtjjphcnoegaimaaGreat
open Go.RowKit Go.Shelf Go.Maps
attribute [local go_sem] Oper.semAt_some
set_option maxRecDepth 20000
set_option linter.unusedVariables false

/-- What a round keeps that appends to the row in box B: the row, the box, and new blocks aside, all. -/
def EaKp (B : Nat) (W W' : World) : Prop := ApKp B W W' ∧ ∀ k, k < B → W'.heap[k]? = W.heap[k]?
def EaQ (B : Nat) (W : World) (k : Nat) : Prop := k < B ∨ (k ≠ B ∧ ¬ InRow W B k ∧ ∃ cs, W.heap[k]? = some (.cells cs 3 (0, 0)))
theorem EaKp.t {B : Nat} {X Y Z : World} (h : EaKp B X Y) (k : EaKp B Y Z) : EaKp B X Z := ⟨h.1.t k.1, fun i hi => (k.2 i hi).trans (h.2 i hi)⟩
theorem EaKp.b {B : Nat} {w : World} (hB : B < w.heap.size) (W : World) (l : Nat) (o o' : Obj) (hl : w.heap.size ≤ l) (h : W.heap[l]? = some o) (hc : o.isCells = false) (hw : o.isWalk = false) : EaKp B W (W.putObj l o') :=
  ⟨ApKp.b hB W l o o' hl h hc hw, fun k hk => World.putObj_heap_other (by omega)⟩
theorem EaKp.q {B : Nat} (W1 W' : World) (g : Nat) (hk : EaKp B W1 W') (h : EaQ B W1 g) : EaQ B W' g ∧ W'.heap[g]? = W1.heap[g]? := by
  rcases h with h | ⟨q1, q2, cs, q3⟩
  · exact ⟨.inl h, hk.2 g h⟩
  · have hs := hk.1.same g cs _ _ q3 q1 q2
    refine ⟨.inr ⟨q1, fun e => ?_, cs, hs⟩, hs.trans q3.symm⟩
    rcases hk.1.row g e with e | e
    · exact q2 e
    · have := blk_lt q3; omega
theorem eaQ_new {B : Nat} {w W' : World} {g : Nat} {cur : Array Value} (hb : w.cell? ⟨B, 0, none⟩ = some (.slice none 0 0)) (hlt : B < w.heap.size) (hB : Below w.heap.size w W') (hg : w.heap.size ≤ g) (hc : W'.heap[g]? = some (.cells cur 3 (0, 0))) : EaQ B W' g := by
  refine .inr ⟨by omega, fun e => ?_, cur, hc⟩
  have hcc := hB.cell (p := ⟨B, 0, none⟩) hlt
  rw [hb] at hcc
  have := InRow.iff_slice hcc g e
  cases this

theorem ownsRow_blockB {W W' : World} {b : Nat} {e : TypeId} {size : Nat} {v : Value} {n : Nat} {xs : List Value} (h : W.ownsRow b e size v n xs) (hb : ∀ k, v.ownBlock = some k → W'.heap[k]? = W.heap[k]?) : W'.ownsRow b e size v n xs := by
  obtain ⟨hlen, hrow⟩ := h
  refine ⟨hlen, ?_⟩
  rcases hrow with h' | ⟨g, cap, cur, rfl, h0, hh, hr⟩
  · exact .inl h'
  · exact .inr ⟨g, cap, cur, rfl, h0, (hb g rfl).trans hh, hr⟩
end Go.Proofs.YtjjphcnoegaimaaGreat

namespace Go.Proofs.YtjjphcnoegaimaaGreat
open Go.RowKit Go.Shelf Go.Maps
attribute [local go_sem] Oper.semAt_some
set_option maxRecDepth 20000
set_option linter.unusedVariables false

/-- Puts as cells. -/
def wcells (M : Wl) : List Value := M.flatMap fun x => [.int .i64 x.1, .string x.2]
theorem wcells_snoc (M : Wl) (x : Int × ByteArray) : wcells (M ++ [x]) = wcells M ++ [.int .i64 x.1, .string x.2] := by simp [wcells]
theorem wcells_zP (l : Puts) : wcells (zP l) = pcells l := by
  unfold wcells zP pcells
  rw [List.flatMap_map]
/-- What a commit of a transaction leaves. -/
def TcPost (w0 : World) (X : Nat → Prop) (p jb N B fr n g r : Nat) (s : DS) (tb m : Nat) (l : Puts) (W : World) (e : Ending) (W' : World) : Prop :=
  (l = [] ∧ e = .returned (.tuple #[.int .u64 (g : Int), .int .i64 0]) ∧ TJ w0 X p jb N B fr n g r s tb m (zP l) true W' ∧ Kb w0 (fun k => X k ∧ k ≠ tb) W W') ∨
  (l ≠ [] ∧ (runO s (commitO fr (g + 1) l)).2 = true ∧ e = .returned (.tuple #[.int .u64 ((g + 1 : Nat) : Int), .int .i64 0]) ∧ TJ w0 X p jb N (B + wcount (commitO fr (g + 1) l)) fr n (g + 1) r (runO s (commitO fr (g + 1) l)).1 tb m (zP l) true W' ∧ Kb w0 (fun k => X k ∧ k ≠ tb ∧ k ≠ jb) W W') ∨
  (l ≠ [] ∧ (runO s (commitO fr (g + 1) l)).2 = false ∧ e = .returned (.tuple #[.int .u64 0, .int .i64 30]) ∧ TJ w0 X p jb N (B + wcount (commitO fr (g + 1) l)) fr n g r (runO s (commitO fr (g + 1) l)).1 tb m (zP l) true W' ∧ Kb w0 (fun k => X k ∧ k ≠ tb ∧ k ≠ jb) W W')

section
variable {w0 w W W' : World} {X : Nat → Prop} {p jb N B fr n g r tb m : Nat} {s : DS} {M : Wl}
theorem TJ.putD {dn : Bool} (h : TJ w0 X p jb N B fr n g r s tb m M dn W) {D : Nat} (hD : X D) (hw : w0.heap.size ≤ D) (hK : W.heap[D]? = some (.deferred (some []))) (o : Obj) : TJ w0 X p jb N B fr n g r s tb m M dn (W.putObj D o) := by
  have n1 : D ≠ jb := by rintro rfl; have := h.j.obj; rw [hK] at this; cases this
  have n2 : tb ≠ D := by rintro rfl; have := h.t.obj; rw [hK] at this; cases this
  have n3 : m ≠ D := by
    rintro rfl
    obtain ⟨L, ⟨es, c, hb, _⟩, _⟩ := h.t.map
    rw [hK] at hb
    cases hb
  exact ⟨h.j.grown hD hw n1 (grownBy_putObj' W D o), h.t.keep (World.putObj_heap_other (fun e => n2 e)) (World.putObj_heap_other (fun e => n3 e)), h.xt, h.xm, h.gt, h.gm⟩
theorem kb_putObj {Y : Nat → Prop} {W2 : World} {D : Nat} (h1 : w0.heap.size ≤ W.heap.size) (h2 : W.heap.size ≤ D) (hl : ∀ k, X k → k < W.heap.size) (o : Obj) : Kb w0 (fun k => X k ∧ Y k) W2 (W2.putObj D o) := fun k hk => World.putObj_heap_other (fun e => by
  rcases hk with hk | hk
  · omega
  · have := hl k hk.1; omega)
theorem info_put_parts : ∃ i0, Tryz.prog.info? 111 = some i0 ∧ i0.zero = some (.agg #[.int .i64 0, .string ByteArray.empty]) ∧ i0.size = 2 ∧ i0.bytes = 24 := infoPut

set_option maxHeartbeats 8000000 in
theorem tx_commit (l : Puts) (h : TJ w0 X p jb N B fr n g r s tb m (zP l) false W) {mx : Nat} (hm : IsMost n mx) (mp : MayP N fr n l) (hg : g + 1 < 18446744073709551616) (hB : B + wcount (commitO fr (g + 1) l) ≤ 90000) :
    Calls Tryz.prog 20 #[.pointer (some ⟨tb, 0, none⟩)] W (TcPost w0 X p jb N B fr n g r s tb m l W) := by
  obtain ⟨i0, hi, hz0, hz1, hz2⟩ := info_put_parts
  have hll : l.length ≤ 4096 := by have := mp.fit; have := mp.area; have := mp.small; omega
  have HT := Lib.hid h
  have hM : (zP l).length ≤ 1000000 := by rw [zP_length]; omega
  have HM := Lib.hid hM
  have HMP := Lib.hid mp
  have HMX := Lib.hid hm
  have HBB := Lib.hid hB
  have HGG := Lib.hid hg
  have HLL := Lib.hid hll
  clear h hM mp hm hB hg hll
  refine (callsIn_wide (n := 9)).1 (callsIn_of_wp_marks Tryz.func20 rfl trivial ?_ rfl)
  refine wpIn_wide.2 ?_
  simp only [Tryz.ntmps20, List.size_toArray, List.length_cons, List.length_nil, Nat.reduceAdd, Nat.reduceSub, Array.replicate_succ, Array.replicate_zero, List.push_toArray, List.append_toArray, List.nil_append, List.cons_append]
  go_wp2_with fail
  refine (tx_open HT.out.t).mono ?_
  rintro e w1 ⟨rfl, rfl⟩
  go_wp2_with fail
  obtain ⟨W0, hW0⟩ : ∃ W0, W.alloc (.cells #[.slice none 0 0] 37) = W0 := ⟨_, rfl⟩
  have hs0 : W0.heap.size = W.heap.size + 1 := by rw [← hW0]; simp
  have hv0 : Boxed W0 W.heap.size 37 (.slice none 0 0) := by rw [← hW0]; exact Boxed.new _ _ _
  have hB0 : Below W.heap.size W W0 := by rw [← hW0]; exact (Below.refl _ W).alloc (Nat.le_refl _) _
  rw [hW0]
  clear hW0
  have HT0 := Lib.hid (HT.out.of hB0)
  refine (wpIn_wide (n := 9)).1 ?_
  have HC0 := Lib.hid hv0.cell
  refine wpIn_rangeBound (by omega) (gf := 47) rfl (fun _ _ => by rfl)
    (each_seq 8 (by decide) (EaKp W.heap.size) (EaQ W.heap.size) EaKp.q W0 HT0.out.t HM.out (fun W' _ => ⟨.inl (blk_lt HT.out.t.obj), .inl HT.out.t.mlt⟩) (fun W' g cur hB hg hc => eaQ_new HC0.out (by omega) hB hg hc)) EaKp.t (EaKp.b (by omega)) (Below.refl _ _) (fun _ => rfl)
    (fun pre W1 => (∃ v, Boxed W1 W.heap.size 37 v ∧ W1.ownsRow W.heap.size 111 2 v pre.length (wcells pre)) ∧ Below W.heap.size W W1)
    (OwnFrom.and (Own.from (fun pre Wa Wb row hs hg hr => ((holdsRow_own W.heap.size W.heap.size 37 111 2 (fun pre : Wl => pre.length) (fun pre => wcells pre) (fun _ _ => True)) pre Wa Wb row (by obtain ⟨v, a, b⟩ := hs; exact ⟨v, a, b, trivial⟩) hg hr).imp (fun v h => ⟨h.1, h.2.1⟩)) _) (ownFrom_below (Nat.le_refl _) (by omega)))
    ⟨⟨_, hv0, World.ownsRow_nil _ _ _ _⟩, hB0⟩
    (fun x => { tmps := #[.pointer (some ⟨tb, 0, none⟩), undef, .int .u64 0, .int .i64 0, .int .i64 0, .pointer (some ⟨W.heap.size, 0, none⟩), .int .i64 x.1, .string x.2, .pointer (some ⟨tb, 0, none⟩), .int .i64 0, .int .i64 0, .bool false, undef, .pointer (some ⟨tb, 0, none⟩), .func (.func 47) #[.pointer (some ⟨tb, 0, none⟩)] #[], .int .i64 x.1, .string x.2, undef, undef, undef, undef, undef, undef, undef, undef, undef, undef, undef, undef, undef, undef, undef, undef, undef, undef, undef, undef, undef, undef, undef, undef, undef], defers := [] }) ?assign ?body ?done
  case assign =>
    intro l x W K hK
    gi_wp2
    exact hK
  case body =>
    rintro l1 pre x W1 ⟨⟨v, hv, hrow⟩, hB⟩ hlen
    have hc := hv.cell
    have hle := hB.size
    have hMl := HM.out
    have hl2 : pre.length + 1 ≤ maxLen := by unfold maxLen; omega
    gi_wp2_with (first | (gi_at_builtin; refine wpListIn_append_at _ rfl _ _ 37 rfl W.heap.size 111 i0 (.agg #[.int .i64 0, .string ByteArray.empty]) 2 24 Tryz.underlying37 hi hz0 hz1 hz2 rfl (by decide) _ _ _ rfl (hrow.alloc _) ⟨W1.heap.size, 0, none⟩ 1 1 [.int .i64 x.1, .string x.2] rfl rfl (World.news_of_block (hp_new _ _ rfl)) (by simp [Value.oneCell']) hl2 (by omega) (by simp; omega) ?_; intro v' w1 hown' hgrow _ hat; obtain ⟨g', cap', rfl⟩ := ownsRow_succ hown'; obtain ⟨hv1, hv2, hr2, hk2, hb2⟩ := hv.appended (by decide) hrow hle (Nat.le_refl _) hown' hgrow; have hc1 := hv1.cell; have hf1 := hv1.frozen) | gi_in)
    refine ⟨hk2, ⟨⟨hk2.walks, fun k cs t fz hk hb hr => ?_, fun k hk => ?_⟩, fun k hk => hb2.block k hk⟩, ⟨_, hv2, by rw [wcells_snoc]; simpa using hr2⟩, hB.trans hb2⟩
    · refine (Below.heap_setCell _ _ _ k hb).trans ((hgrow.block k (by have := blk_lt hk; simp; omega) (fun e => hr ?_)).trans (blk_old hk _))
      rcases hrow.2 with ⟨rfl, _⟩ | ⟨g, cap, cur, rfl, _⟩
      · cases e
      · cases e
        exact ⟨_, _, _, hc, rfl⟩
    · have := InRow.iff_slice hv2.cell k hk
      rcases hat with hat | hat
      · left
        rw [hat] at this
        rcases hrow.2 with ⟨rfl, _⟩ | ⟨g, cap, cur, rfl, _⟩
        · cases this
        · cases this
          exact ⟨_, _, _, hc, rfl⟩
      · right
        rw [hat] at this
        cases this
        simp
  case done =>
    rintro D ys W1 hD rfl ⟨⟨v, hv, hrow⟩, hB⟩ hK
    rw [zP_length, wcells_zP] at hrow
    obtain ⟨ao, cp, rfl⟩ : ∃ ao cp, v = .slice ao l.length cp := by
      rcases hrow.2 with ⟨rfl, h0⟩ | ⟨g, cap, cur, rfl, _⟩
      · exact ⟨_, _, by rw [h0]⟩
      · exact ⟨_, _, rfl⟩
    have hvne := hv.not_row (by decide) hrow
    have h1 := HT.out.take hB
    have hx1 : ∀ k, W.heap.size ≤ k → k < W1.heap.size → (fun k => X k ∨ W.heap.size ≤ k ∧ k < W1.heap.size) k := fun k a b => .inr ⟨a, b⟩
    have hw0 : w0.heap.size ≤ W.heap.size := HT.out.j.dev.below.size
    have htl := blk_lt HT.out.t.obj
    have hDl := blk_lt hK
    have hBl := hv.lt
    have t3 := cl_of h1.t.obj 3
    have f3 := fz_of h1.t.obj 3
    obtain ⟨W2, hW2⟩ : ∃ W2, W1.setCell ⟨tb, 3, none⟩ (.bool true) = W2 := ⟨_, rfl⟩
    have h2 := h1.abort
    have hks : ∀ k, k ≠ tb → W2.heap[k]? = W1.heap[k]? := fun k hk => by rw [← hW2]; exact kb_set 3 _ k hk
    rw [hW2] at h2
    have c2 : W2.cell? ⟨W.heap.size, 0, none⟩ = some (.slice ao l.length cp) := (World.cell?_of_block (hks W.heap.size (by omega))).trans hv.cell
    have d2 : W2.heap[D]? = some (.deferred (some [])) := (hks D (by omega)).trans hK
    have j2 : W2.cell? ⟨tb, 1, none⟩ = some (.pointer (some ⟨jb, 0, none⟩)) := cl_of h2.t.obj 1
    have sl2 : SlP w0 (fun k => X k ∨ W.heap.size ≤ k ∧ k < W1.heap.size) W2 (.slice ao l.length cp) (zP l) := by
      rcases hrow.2 with ⟨e, h0⟩ | ⟨g, cap, cur, e, h0, hh, _⟩
      · refine ⟨ao, cp, by rw [zP_length], fun hp => ?_⟩
        rw [zP_length] at hp
        omega
      · refine ⟨ao, cp, by rw [zP_length], fun hp => ⟨g, 0, by cases e; rfl, .inr (.inr ⟨h0, blk_lt hh⟩), fun i hi => ?_⟩⟩
        rw [zP_length] at hi
        rw [zP_get l i hi]
        obtain ⟨a, b⟩ := pcells_at l i hi
        have hr2 := ownsRow_blockB hrow (W' := W2) (fun k e2 => hks k (by rw [e] at e2; have hk : g = k := (by simpa [Value.ownBlock] using e2); omega))
        have hcc := fun j u (hj : (pcells l)[j]? = some u) => ownsRow_cell (ownsRow_base hr2) (by rw [e]) hj
        exact ⟨by rw [Nat.zero_add]; exact hcc _ _ a, by rw [Nat.zero_add]; exact hcc _ _ b⟩
    have k2 : Kb w0 (fun k => X k ∧ k ≠ tb) W W2 := fun k hk => by
      have hne : k ≠ tb := by
        rcases hk with hk | hk
        · have := HT.out.gt; omega
        · exact hk.2
      rw [hks k hne]
      exact hB.block k (hk.elim (fun e => by omega) (fun e => HT.out.j.dev.lt k e.1))
    have HH2 := Lib.hid h2
    have HSL := Lib.hid sl2
    have HK2 := Lib.hid k2
    have HD2 := Lib.hid d2
    have HDW : Hid (W.heap.size < D ∧ D < W1.heap.size) := Lib.hid ⟨by omega, hDl⟩
    have HW0 := Lib.hid hw0
    have hDB : D ≠ tb := by omega
    have HDB := Lib.hid hDB
    have HWt := Lib.hid hW2
    clear h1 h2 sl2 k2 d2 hx1 hw0 hB hK hrow hDl hBl hvne hDB hks hD
    by_cases hl0 : l = []
    · have e0 : (l.length : Int) = 0 := by rw [hl0]; rfl
      have e1 : ((l.length : Int) == 0) = true := by rw [hl0]; rfl
      have HL0 := Lib.hid hl0
      clear hl0 hz0 hz1 hz2 hi
      go_wp2_with fail
      refine (jgen_any HH2.out.j).mono ?_
      rintro e w3 ⟨rfl, rfl⟩
      go_wp2_with fail
      refine ⟨by simp, .inl ⟨_, _, rfl, run_takeDeferred HD2.out, ?_⟩⟩
      have h3 := (HH2.out.putD (.inr ⟨Nat.le_of_lt HDW.out.1, HDW.out.2⟩) (Nat.le_trans HW0.out (Nat.le_of_lt HDW.out.1)) HD2.out (.deferred none)).less (Y := X) (fun _ h => .inl h) HT.out.j.own HT.out.xt HT.out.xm
      exact ⟨_, results_tmp2 rfl _ _ _, .inl ⟨HL0.out, rfl, h3, HK2.out.t (kb_putObj HW0.out (Nat.le_of_lt HDW.out.1) HT.out.j.dev.lt _)⟩⟩
    · have hne : (l.length : Int) ≠ 0 := by
        have : l.length ≠ 0 := fun e => hl0 (List.eq_nil_of_length_eq_zero e)
        omega
      have e1 : ((l.length : Int) == 0) = false := by simpa using hne
      have h3 : JS w0 (fun k => X k ∨ W.heap.size ≤ k ∧ k < W1.heap.size) p jb N B fr n g r s W2.drew := (HH2.out.of (Below.refl _ _).drew).j
      have sl3 : SlP w0 (fun k => X k ∨ W.heap.size ≤ k ∧ k < W1.heap.size) W2.drew (.slice ao l.length cp) (zP l) := HSL.out.kb (Kb.refl _ _ _)
      have hres := fun (W4 : World) (g' : Nat) (s' : DS) (B' : Nat) (a : JS w0 (fun k => X k ∨ W.heap.size ≤ k ∧ k < W1.heap.size) p jb N B' fr n g' r s' W4) (b : Kb w0 (fun k => (X k ∨ W.heap.size ≤ k ∧ k < W1.heap.size) ∧ k ≠ jb) W2.drew W4) => (by
        have hb : ∀ k, (k < w0.heap.size ∨ (X k ∨ W.heap.size ≤ k ∧ k < W1.heap.size) ∧ k ≠ jb) → W4.heap[k]? = W2.heap[k]? := fun k hk => b k hk
        have t4 := HH2.out.t.keep (hb tb (.inr ⟨.inl HT.out.xt, HT.out.tjb⟩)) (hb m (.inr ⟨.inl HT.out.xm, HT.out.mjb⟩))
        have hjb := blk_lt HT.out.j.obj
        have d4 := (hb D (.inr ⟨.inr ⟨Nat.le_of_lt HDW.out.1, HDW.out.2⟩, by have := HDW.out; omega⟩)).trans HD2.out
        have q4 : TJ w0 (fun k => X k ∨ W.heap.size ≤ k ∧ k < W1.heap.size) p jb N B' fr n g' r s' tb m (zP l) true W4 := ⟨a, t4, .inl HT.out.xt, .inl HT.out.xm, HT.out.gt, HT.out.gm⟩
        have q5 := (q4.putD (.inr ⟨Nat.le_of_lt HDW.out.1, HDW.out.2⟩) (Nat.le_trans HW0.out (Nat.le_of_lt HDW.out.1)) d4 (.deferred none)).less (Y := X) (fun _ h => .inl h) HT.out.j.own HT.out.xt HT.out.xm
        have k5 : Kb w0 (fun k => X k ∧ k ≠ tb ∧ k ≠ jb) W (W4.putObj D (.deferred none)) := by
          have e1 : Kb w0 (fun k => X k ∧ k ≠ tb ∧ k ≠ jb) W W2 := HK2.out.less (fun k hk => ⟨hk.1, hk.2.1⟩)
          refine e1.t (Kb.t (B := W4) (show Kb w0 (fun k => X k ∧ k ≠ tb ∧ k ≠ jb) W2 W4 from fun k hk => hb k (hk.elim .inl (fun e => .inr ⟨.inl e.1, e.2.2⟩))) ?_)
          exact kb_putObj HW0.out (Nat.le_of_lt HDW.out.1) HT.out.j.dev.lt _
        have hjb2 : jb ≠ W.heap.size := by omega
        exact ⟨q5, k5, d4, cl_of ((HH2.out.t.keep (hb tb (.inr ⟨.inl HT.out.xt, HT.out.tjb⟩)) (hb m (.inr ⟨.inl HT.out.xm, HT.out.mjb⟩))).obj) 1, (World.cell?_of_block (hb W.heap.size (.inr ⟨.inr ⟨Nat.le_refl _, by have := HDW.out; omega⟩, fun e => hjb2 e.symm⟩))).trans c2⟩ : TJ w0 X p jb N B' fr n g' r s' tb m (zP l) true (W4.putObj D (.deferred none)) ∧ Kb w0 (fun k => X k ∧ k ≠ tb ∧ k ≠ jb) W (W4.putObj D (.deferred none)) ∧ W4.heap[D]? = some (.deferred (some [])) ∧ W4.cell? ⟨tb, 1, none⟩ = some (.pointer (some ⟨jb, 0, none⟩)) ∧ W4.cell? ⟨W.heap.size, 0, none⟩ = some (.slice ao l.length cp))
      have cm : Calls Tryz.prog 49 #[.pointer (some ⟨jb, 0, none⟩), .slice ao l.length cp] W2.drew fun e W4 => ∃ (c d : Int), e = .returned (.tuple #[.int .u64 c, .int .i64 d]) ∧ W4.cell? ⟨tb, 1, none⟩ = some (.pointer (some ⟨jb, 0, none⟩)) ∧ W4.cell? ⟨W.heap.size, 0, none⟩ = some (.slice ao l.length cp) ∧ Hid (W4.heap[D]? = some (.deferred (some [])) ∧ TcPost w0 X p jb N B fr n g r s tb m l W (.returned (.tuple #[.int .u64 c, .int .i64 d])) (W4.putObj D (.deferred none))) := by
        refine (commit_any l h3 sl3 HMX.out HMP.out HGG.out HBB.out).mono ?_
        rintro e w4 (⟨hok, rfl, a, b⟩ | ⟨hno, rfl, a, b⟩)
        · obtain ⟨q5, k5, d4, x1, x2⟩ := hres w4 _ _ _ a b
          exact ⟨_, _, rfl, x1, x2, Lib.hid ⟨d4, .inr (.inl ⟨hl0, hok, rfl, q5, k5⟩)⟩⟩
        · obtain ⟨q5, k5, d4, x1, x2⟩ := hres w4 _ _ _ a b
          exact ⟨_, _, rfl, x1, x2, Lib.hid ⟨d4, .inr (.inr ⟨hl0, hno, rfl, q5, k5⟩)⟩⟩
      have CM := Lib.hid cm
      clear hl0 hne hz0 hz1 hz2 hi h3 sl3 hres cm hv hv0 hs0 hB0
      go_wp2_with fail
      first | (go_region_held3 (fun Wq => Wq.cell? ⟨tb, 1, none⟩ = some (.pointer (some ⟨jb, 0, none⟩)) ∧ Wq.cell? ⟨W.heap.size, 0, none⟩ = some (.slice ao l.length cp)) (first | exact ⟨j2, c2⟩ | assumption | exact ⟨by assumption, by assumption⟩) (first | (go_at_call 49; ((with_reducible refine CM.out.mono ?_); rintro e w4 ⟨c, d, rfl, x1, x2, hpost⟩)))) | fail
      first | (rename_i hK; refine hK _ _ ?_; clear hK) | (rename_i hK _; refine hK _ _ ?_; clear hK) | (rename_i hK _ _; refine hK _ _ ?_; clear hK)
      go_wp2_with fail
      refine ⟨by simp, .inl ⟨_, _, rfl, run_takeDeferred hpost.out.1, ?_⟩⟩
      exact ⟨_, results_tmp2 (t := 2) (u := 3) rfl _ _ _, hpost.out.2⟩
end
end Go.Proofs.YtjjphcnoegaimaaGreat
