/- A range over a function whose iterator turns cells of one block that lay ahead of it. Package bmap: taken, an iterator over a row that makes it noughts as it goes. -/
import Derived.Test.YtjjphcnoegaimaaGreatGO
import Derived.Test.YtjjphcnoegaimaaGreatProg
import Derived.Test.YtjjphcnoegaimaaGreatGA
namespace Go.Proofs.YtjjphcnoegaimaaGreat
open Go.RowKit
set_option linter.unusedSimpArgs false
set_option linter.unusedVariables false

/-- What an iterator gives that turns cells of block b, whatever the body does that abides it. -/
def SeqW {α : Type} (n : Nat) (P : Program) (g : Nat) (lb : Array Value) (encs : α → Array Value) (Kp : World → World → Prop) (b : Nat) (S : List α → Prop) (Z : Obj → Prop) (N : Nat) (w : World) : Prop :=
  ∀ (l : Nat) (J : List α → World → Prop) (W : World), Below w.heap.size w W → (∀ pre k v W1, J pre W1 → J pre (W1.setCell ⟨b, k, none⟩ v)) →
    (∀ pre x W1, J pre W1 → pre.length < N → YieldAt Fence.wide (n - 1) P l (encs x) W1 fun e W' => e = .returned (.bool true) ∧ J (pre ++ [x]) W' ∧ Kp W1 W') →
    J [] W → CallsIn Fence.wide n P g (#[.func (.yield l) #[] #[]] ++ lb) W fun e W' => (∃ v, e = .returned v) ∧ ∃ xs, S xs ∧ J xs W' ∧ ∃ o, W'.heap[b]? = some o ∧ Z o

variable {n : Nat} {P : Program}
theorem wpIn_rangeW {α : Type} {g : Operand} {ps : Array Tmp} {assign body : Code} {Q : Exit → Act → World → Prop} {a : Act} {w : World}
    (h1 : 1 ≤ n) {gf : Nat} {lb : Array Value} (hg : a.eval g = .func (.func gf) #[] lb) (eg : ∀ args w, (callFunc gf args).run P w = .ok (.enter gf args) w)
    {encs : α → Array Value} {Kp : World → World → Prop} {b : Nat} {S : List α → Prop} {Z : Obj → Prop} {N : Nat} {w0 : World} (hseq : SeqW (n - 1) P gf lb encs Kp b S Z N w0) (hbw : b < w.heap.size)
    (hKt : ∀ {A B C : World}, Kp A B → Kp B C → Kp A C) (hKb : ∀ (W : World) (l : Nat) (o o' : Obj), w.heap.size ≤ l → W.heap[l]? = some o → o.isCells = false → o.isWalk = false → Kp W (W.putObj l o')) (hb0 : Below w0.heap.size w0 w) (hps : ∀ x, (encs x).size = ps.size)
    (I : List α → World → Prop) (hI : OwnFrom w.heap.size I) (hIb : ∀ pre k v W1, I pre W1 → I pre (W1.setCell ⟨b, k, none⟩ v)) (h0 : I [] w) (a₁ : α → Act)
    (hassign : ∀ (l : Nat) (x : α) (W : World) (K : Act → World → Prop), K (a₁ x) W →
      assign.wpIn (Fence.wide.inRound l) (n - 1 - 1) P (Exit.then K (fun _ _ _ => False)) { tmps := (ps.zip (encs x)).foldl (fun t (p, v) => t.setIfInBounds p v) a.tmps, defers := [] } W)
    (hbody : ∀ (l : Nat) (pre : List α) (x : α) (W : World), I pre W → pre.length < N → body.wpIn (Fence.wide.inRound l) (n - 1 - 1) P (goesPost Kp I (pre ++ [x]) W) (a₁ x) W)
    (hdone : ∀ (D : Nat) (xs : List α) (W : World), w.heap.size ≤ D → S xs → I xs W → (∃ o, W.heap[b]? = some o ∧ Z o) → W.heap[D]? = some (.deferred (some [])) → Q .normal { a with defers := { target := .collected D, args := #[] } :: a.defers } W) :
    (Code.rangeFunc g ps assign body).wpIn Fence.wide n P Q a w := by
  refine wpIn_rangeFunc ?_
  intro fn hfn
  rw [show Fence.wide.round = none from rfl]
  obtain ⟨rec, hrec⟩ : ∃ rec : LoopState → Option Code → Loop, rec = fun st pe => { state := st, pending := pe, fn, tmps := a.tmps, params := ps, assign, body, defers := w.heap.size } := ⟨_, rfl⟩
  obtain ⟨W1, hW1⟩ : ∃ W1, (w.alloc (.deferred (some []))).alloc (.loop (rec .ready none)) = W1 := ⟨_, rfl⟩
  have hL1 : W1.heap[w.heap.size + 1]? = some (.loop (rec .ready none)) := by
    rw [← hW1]
    exact hp_new _ _ (by simp)
  have hK1 : W1.heap[w.heap.size]? = some (.deferred (some [])) := by
    rw [← hW1]
    exact (hp_old _ _ (by simp)).trans (hp_new _ _ rfl)
  have hI1 : I [] W1 := by rw [← hW1]; exact hI.alloc _ (hI.alloc _ h0)
  have hb1 : Below w0.heap.size w0 W1 := by
    rw [← hW1]
    exact hb0.trans ((((Below.refl _ w).alloc (Nat.le_refl _) _).alloc (by simp) _).mono hb0.size)
  refine ⟨w.heap.size + 1, [{ target := .collected w.heap.size, args := #[] }], W1, { target := .fn (.func gf) lb, args := #[.func (.yield (w.heap.size + 1)) #[] #[]] }, W1, gf,
    #[.func (.yield (w.heap.size + 1)) #[] #[]] ++ lb, W1, ?_, ?_, ?_, ?_, fun _ => h1, ?_⟩
  · rw [← hW1, hrec]; exact run_enterLoop_outer _ _ _ _ _
  · simp only [resolve, hg]
    simp [go_sem]
  · intro f' _
    exact trivial
  · simp [invoke, go_sem, eg]
  · refine (hseq (w.heap.size + 1)
      (fun pre W => I pre W ∧ W.heap[w.heap.size + 1]? = some (.loop (rec .ready none)) ∧ W.heap[w.heap.size]? = some (.deferred (some [])))
      W1 hb1
      (fun s k v A hs => ⟨hIb s k v A hs.1, (Below.heap_setCell A _ _ _ (by show w.heap.size + 1 ≠ b; omega)).trans hs.2.1, (Below.heap_setCell A _ _ _ (by show w.heap.size ≠ b; omega)).trans hs.2.2⟩)
      ?_ ⟨hI1, hL1, hK1⟩).mono ?_
    · rintro pre x W ⟨hi, hl, hk⟩ hlen
      have hlt := blkLt hl
      have hy := run_yield (P := P) (args := encs x) hl (by rw [hrec]; exact hps x)
      rw [hrec] at hy
      refine ⟨fn, _, assign, body, hy, roundIn_of_wpIn hfn (hassign _ x W _ ⟨_, run_beginRound hl (by rw [hrec]), ?_⟩)⟩
      obtain ⟨Wb, hWb⟩ : ∃ Wb, W.putObj (w.heap.size + 1) (.loop { rec .ready none with state := .busy }) = Wb := ⟨_, rfl⟩
      have hl2 : Wb.heap[w.heap.size + 1]? = some (.loop { rec .ready none with state := .busy }) := by rw [← hWb]; exact World.putObj_heap_same hlt
      have hk2 : Wb.heap[w.heap.size]? = some (.deferred (some [])) := by rw [← hWb]; exact (World.putObj_heap_other (by omega)).trans hk
      have hw2 : Kp W Wb := by rw [← hWb]; exact hKb _ _ _ _ (by omega) hl rfl rfl
      have hi2 : I pre Wb := by rw [← hWb]; exact hI.putObj _ hi (by omega) hl rfl
      rw [hWb]
      refine wpIn_mono (hbody _ pre x _ hi2 hlen) ?_
      rintro e a3 W3 hp
      cases e with
      | normal =>
        obtain ⟨hk3, hkp3, hi3⟩ := hp
        have hl3 := hk3.same _ _ hl2 rfl
        have hr := run_endRound (P := P) none hl3
        rw [hrec] at hr hl3
        refine ⟨_, _, hr, rfl, ⟨hI.putObj _ hi3 (by omega) hl3 rfl, ?_, (World.putObj_heap_other (by omega)).trans (hk3.same _ _ hk2 rfl)⟩, hKt (hKt hw2 hkp3) (hKb _ _ _ _ (by omega) hl3 rfl rfl)⟩
        rw [hrec]
        exact World.putObj_heap_same (blkLt hl3)
      | ret => exact hp.elim
      | exit id => exact hp.elim
      | goto t => exact hp.elim
      | panic ch => exact hp.elim
      | outgrown => exact hp.elim
    · rintro e W2 ⟨⟨v, rfl⟩, xs, hS, ⟨hi, hl, hk⟩, o, ho, hz⟩
      have hend := run_endLoop (P := P) hl (by rw [hrec]; simp)
      rw [hrec] at hend
      exact ⟨none, _, hend, hdone _ xs _ (Nat.le_refl _) hS (hI.putObj _ hi (by omega) hl rfl) ⟨o, (World.putObj_heap_other (by omega)).trans ho, hz⟩ ((World.putObj_heap_other (by omega)).trans hk)⟩
end Go.Proofs.YtjjphcnoegaimaaGreat

namespace Go.Proofs.YtjjphcnoegaimaaGreat
open Go.RowKit Go.Shelf Go.Maps
set_option linter.unusedSimpArgs false
attribute [local go_sem] Oper.semAt_some
set_option maxRecDepth 20000
set_option linter.unusedVariables false

def nz (l : List Int) : List Int := l.filter (fun z => decide (z ≠ 0))
theorem nz_app (a b : List Int) : nz (a ++ b) = nz a ++ nz b := by simp [nz]
/-- A block's cells with noughts in a row's places from f to k. -/
def Zd (cs : Array Value) (t : TypeId) (off f k : Nat) (o : Obj) : Prop := ∃ c : Array Value, o = .cells c t (0, 0) ∧ ∀ j, c[j]? = if off + f ≤ j ∧ j < off + k then some (.int .u16 0) else cs[j]?
def tkL (zs : List Int) (f k : Nat) : List Int := nz ((zs.take k).drop f)
theorem tkL_start (zs : List Int) (f : Nat) : tkL zs f f = [] := by rw [tkL, List.drop_eq_nil_of_le (by rw [List.length_take]; omega)]; rfl
theorem tkL_succ (zs : List Int) {f k : Nat} (hf : f ≤ k) (hk : k < zs.length) : tkL zs f (k + 1) = tkL zs f k ++ nz [zs.getD k 0] := by
  have e : zs.take (k + 1) = zs.take k ++ [zs.getD k 0] := by
    rw [List.take_succ_eq_append_getElem hk, List.getD_eq_getElem?_getD, List.getElem?_eq_getElem hk]
    rfl
  rw [tkL, e, List.drop_append_of_le_length (by rw [List.length_take]; omega), nz_app]
  rfl
theorem tkL_end (zs : List Int) {f k : Nat} (hk : zs.length ≤ k) : tkL zs f k = nz (zs.drop f) := by rw [tkL, List.take_of_length_le hk]
theorem tkL_len (zs : List Int) (f k : Nat) (hk : k ≤ zs.length) : (tkL zs f k).length ≤ k := by
  rw [tkL, nz]
  refine Nat.le_trans (List.length_filter_le _ _) ?_
  rw [List.length_drop, List.length_take]
  omega
theorem Zd.get {cs : Array Value} {t : TypeId} {off f k : Nat} {o : Obj} {W : World} {b : Nat} (h : W.heap[b]? = some o) (hz : Zd cs t off f k o) (j : Nat) (hj : off + k ≤ j) : W.cell? ⟨b, j, none⟩ = cs[j]? := by
  obtain ⟨c, rfl, hc⟩ := hz
  rw [cl_of h, hc, if_neg (by omega)]
theorem Zd.step {cs : Array Value} {t : TypeId} {off f k : Nat} {o : Obj} {W : World} {b : Nat} {u : Value} (h : W.heap[b]? = some o) (hz : Zd cs t off f k o) (hf : f ≤ k) (hu : cs[off + k]? = some u) : ∃ o', (W.setCell ⟨b, off + k, none⟩ (.int .u16 0)).heap[b]? = some o' ∧ Zd cs t off f (k + 1) o' := by
  obtain ⟨c, rfl, hc⟩ := hz
  refine ⟨_, blk_here h _ _, _, rfl, fun j => ?_⟩
  have hlt : off + k < c.size := by
    have := hc (off + k)
    rw [if_neg (by omega), hu] at this
    exact (Array.getElem?_eq_some_iff.1 this).1
  rw [Array.getElem?_setIfInBounds]
  by_cases e : off + k = j
  · subst e
    rw [if_pos rfl, if_pos hlt, if_pos (by omega)]
  · rw [if_neg e, hc]
    by_cases h1 : off + f ≤ j ∧ j < off + k
    · rw [if_pos h1, if_pos (by omega)]
    · rw [if_neg h1, if_neg (by omega)]

set_option maxRecDepth 100000 in
set_option maxHeartbeats 2000000 in
theorem taken1_in (n l Bf Bl b off cap : Nat) (hn : 1 ≤ n) (zs : List Int) (hzl : zs.length ≤ 1000) (cs : Array Value) (t : TypeId) (from_ : Int) (hf0 : -1000 ≤ from_) (hf1 : from_ ≤ 1000) (hBf : Bf ≠ b) (hBl : Bl ≠ b)
    (hcs : ∀ k, k < zs.length → cs[off + k]? = some (.int .u16 (zs.getD k 0))) (J : List Int → World → Prop) (hJ : ∀ pre k v W1, J pre W1 → J pre (W1.setCell ⟨b, k, none⟩ v))
    (hY : ∀ pre x W, J pre W → pre.length < zs.length → YieldAt Fence.wide (n - 1) Tryz.prog l #[.int .u16 x] W fun e W' => e = .returned (.bool true) ∧ J (pre ++ [x]) W' ∧ KeepB (fun k => k = b ∨ k = Bf ∨ k = Bl) W W')
    (W : World) (hbf : W.cell? ⟨Bf, 0, none⟩ = some (.int .i64 from_)) (hbl : W.cell? ⟨Bl, 0, none⟩ = some (.slice (some ⟨b, off, none⟩) zs.length cap)) (hb : W.heap[b]? = some (.cells cs t (0, 0))) (h0 : J [] W) :
    CallsIn Fence.wide n Tryz.prog 90 #[.func (.yield l) #[] #[], .pointer (some ⟨Bf, 0, none⟩), .pointer (some ⟨Bl, 0, none⟩)] W fun e W' => (∃ v, e = .returned v) ∧
      ∃ ys, ys = nz (zs.drop from_.toNat) ∧ J ys W' ∧ ∃ o, W'.heap[b]? = some o ∧ Zd cs t off from_.toNat zs.length o := by
  obtain ⟨f, hf⟩ : ∃ f, from_.toNat = f := ⟨_, rfl⟩
  have hmax : (if from_ < 0 then (0 : Int) else from_) = (f : Int) := by split <;> omega
  have hmax2 : (if (0 : Int) < from_ then from_ else 0) = (f : Int) := by split <;> omega
  have hmax3 : max from_ 0 = (f : Int) := by omega
  rw [hf]
  have hfb : f ≤ 1000 := by omega
  clear hf hf0 hf1
  have hlt : b < W.heap.size := blk_lt hb
  have HCS := Lib.hid hcs
  have HZL := Lib.hid hzl
  clear hcs hzl
  refine callsIn_of_wp Tryz.func90 rfl trivial ?_ rfl
  simp only [Tryz.ntmps90, List.size_toArray, List.length_cons, List.length_nil, Nat.reduceAdd, Nat.reduceSub, Array.replicate_succ, Array.replicate_zero, List.push_toArray, List.append_toArray, List.nil_append, List.cons_append]
  gi_wp2
  gi_loopw [4] (fun v4 wr => ∃ k : Nat, f ≤ k ∧ (k ≤ zs.length ∨ k = f) ∧ v4 = .int .i64 k ∧ J (tkL zs f k) wr ∧ wr.cell? ⟨Bf, 0, none⟩ = some (.int .i64 from_) ∧ wr.cell? ⟨Bl, 0, none⟩ = some (.slice (some ⟨b, off, none⟩) zs.length cap) ∧ ∃ o, wr.heap[b]? = some o ∧ Zd cs t off f k o)
    (fun v4 _ => zs.length - (intOf v4).toNat)
  case atStart => exact ⟨f, Nat.le_refl _, .inr rfl, rfl, by rw [tkL_start]; exact h0, hbf, hbl, _, hb, cs, rfl, fun j => by rw [if_neg (by omega)]⟩
  case round =>
    obtain ⟨k, hfk, hk, rfl, hJs, cf, cl, o, ho, hz⟩ := hrel
    by_cases hlt2 : k < zs.length
    · have hcell := (Zd.get ho hz (off + k) (Nat.le_refl _)).trans (HCS.out k hlt2)
      have hfr : wr.frozen? ⟨b, off + k, none⟩ = false := by
        obtain ⟨c, e, -⟩ := hz
        rw [e] at ho
        exact fz_of ho _
      obtain ⟨o', ho', hz'⟩ := Zd.step ho hz hfk (HCS.out k hlt2)
      have hJ2 := hJ _ (off + k) (.int .u16 0) _ hJs
      have cf2 : (wr.setCell ⟨b, off + k, none⟩ (.int .u16 0)).cell? ⟨Bf, 0, none⟩ = some (.int .i64 from_) := (World.cell?_of_block (Below.heap_setCell _ _ _ Bf (by show Bf ≠ b; exact hBf))).trans cf
      have cl2 : (wr.setCell ⟨b, off + k, none⟩ (.int .u16 0)).cell? ⟨Bl, 0, none⟩ = some (.slice (some ⟨b, off, none⟩) zs.length cap) := (World.cell?_of_block (Below.heap_setCell _ _ _ Bl (by show Bl ≠ b; exact hBl))).trans cl
      have hsucc := tkL_succ zs hfk hlt2
      have hlen := tkL_len zs f k (by omega)
      have hkk : k < 1000 := by have := HZL.out; omega
      generalize zs.getD k 0 = z at *
      have HO := Lib.hid ho'
      have HZ := Lib.hid hz'
      have HSU := Lib.hid hsucc
      clear hz ho ho' hz' hsucc
      by_cases h0 : z = 0
      · subst h0
        have hj3 : J (tkL zs f (k + 1)) (wr.setCell ⟨b, off + k, none⟩ (.int .u16 0)) := by rw [HSU.out]; simpa [nz] using hJ2
        have HJ3 := Lib.hid hj3
        clear hJ2 hj3 hJs
        gi_wp2
        refine ⟨(fun _ h => (by cases h)), ?_⟩
        gi_wp2
        go_roundw
        case rel => exact ⟨k + 1, by omega, .inl (by omega), by go_num, HJ3.out, cf2, cl2, _, HO.out, HZ.out⟩
        case measure => simp [intOf]; omega
      · have hne : (z != 0) = true := by simpa using h0
        have hn1 : nz [z] = [z] := by simp [nz, h0]
        rw [hn1] at HSU
        obtain ⟨fn, tmps, assign, body, hy, hR⟩ := hY _ z _ hJ2 (by omega)
        clear hJ2 hJs
        gi_wp2
        refine hR.mono ?_
        rintro e W3 ⟨rfl, hJ3, hk3⟩
        have cf3 : W3.cell? ⟨Bf, 0, none⟩ = some (.int .i64 from_) := (hk3.cell (p := ⟨Bf, 0, none⟩) (.inr (.inl rfl))).trans cf2
        have cl3 : W3.cell? ⟨Bl, 0, none⟩ = some (.slice (some ⟨b, off, none⟩) zs.length cap) := (hk3.cell (p := ⟨Bl, 0, none⟩) (.inr (.inr rfl))).trans cl2
        have ho3 := (hk3 b (.inl rfl)).trans HO.out
        have HJ3 := Lib.hid hJ3
        have HO3 := Lib.hid ho3
        clear hJ3 ho3 hk3
        gi_wp2
        go_roundw
        case rel => exact ⟨k + 1, by omega, .inl (by omega), by go_num, by rw [HSU.out]; exact HJ3.out, cf3, cl3, _, HO3.out, HZ.out⟩
        case measure => simp [intOf]; omega
    · have HJs := Lib.hid hJs
      have HO := Lib.hid ho
      have HZ := Lib.hid hz
      clear hJs ho hz
      gi_wp2
      go_end0
      refine ⟨⟨_, rfl⟩, _, rfl, ?_, o, HO.out, ?_⟩
      · rw [← tkL_end zs (Nat.le_of_not_lt hlt2)]
        exact HJs.out
      · obtain ⟨c, rfl, hc⟩ := HZ.out
        refine ⟨c, rfl, fun j => ?_⟩
        rw [hc]
        by_cases e : off + f ≤ j ∧ j < off + k
        · rw [if_pos e]
          by_cases e2 : off + f ≤ j ∧ j < off + zs.length
          · rw [if_pos e2]
          · exfalso; omega
        · rw [if_neg e]
          by_cases e2 : off + f ≤ j ∧ j < off + zs.length
          · exfalso; omega
          · rw [if_neg e2]

set_option maxHeartbeats 1000000 in
theorem taken_any (ao : Option Addr) (ln cp : Nat) (from_ : Int) (w : World) :
    Calls Tryz.prog 59 #[.slice ao ln cp, .int .i64 from_] w fun e w' => ∃ Bf Bl, e = .returned (.func (.func 90) #[] #[.pointer (some ⟨Bf, 0, none⟩), .pointer (some ⟨Bl, 0, none⟩)]) ∧ Below w.heap.size w w' ∧
      w.heap.size ≤ Bf ∧ w.heap.size ≤ Bl ∧ w'.heap[Bf]? = some (.cells #[.int .i64 from_] 3 (0, 0)) ∧ w'.heap[Bl]? = some (.cells #[.slice ao ln cp] 68 (0, 0)) ∧ Bf < w'.heap.size ∧ Bl < w'.heap.size := by
  go_enter Tryz.func59, Tryz.ntmps59
  go_wp2_with fail
  go_ret
  have c0 : ((w.alloc (.cells #[.slice ao ln cp] 68)).alloc (.cells #[.int .i64 from_] 3)).heap[w.heap.size]? = some (.cells #[.slice ao ln cp] 68 (0, 0)) := (hp_old _ _ (by simp)).trans (hp_new _ _ rfl)
  have c1 : ((w.alloc (.cells #[.slice ao ln cp] 68)).alloc (.cells #[.int .i64 from_] 3)).heap[w.heap.size + 1]? = some (.cells #[.int .i64 from_] 3 (0, 0)) := hp_new _ _ (by simp)
  exact ⟨_, _, rfl, bal (bnew _ _) _, Nat.le_succ _, Nat.le_refl _, c1, c0, by simp, by simp; omega⟩
end Go.Proofs.YtjjphcnoegaimaaGreat
