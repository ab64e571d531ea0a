/- The walk of SeqWhole. -/
import Derived.Test.YthmabnigdnbdkaaSeqOff
import Derived.Test.YthmabnigdnbdkaaSeqPlain
import Derived.Test.YthmabnigdnbdkaaSlice
namespace Go.Proofs.Ythmabnigdnbdkaa
open Go.RowKit
set_option maxRecDepth 100000

/-- The four readers' block. -/
def rblk (a b c d : Rd) : Array Value := #[.int .i64 a.at_, .int .i64 a.v, .int .i64 a.g0, .int .i64 a.g1, .int .i64 a.g2, .int .i64 a.since,
  .int .i64 b.at_, .int .i64 b.v, .int .i64 b.g0, .int .i64 b.g1, .int .i64 b.g2, .int .i64 b.since,
  .int .i64 c.at_, .int .i64 c.v, .int .i64 c.g0, .int .i64 c.g1, .int .i64 c.g2, .int .i64 c.since,
  .int .i64 d.at_, .int .i64 d.v, .int .i64 d.g0, .int .i64 d.g1, .int .i64 d.g2, .int .i64 d.since]
/-- What the cells hold, behind W steps of the writer. -/
structure St (f : Int) (W : Nat) (N : List (Int × Int)) : Prop where
  c9 : nget 9 N = wrap64 (f + cn W)
  c1 : nget 21 N = cv 0 W
  c2 : nget 22 N = cv 1 W
  c3 : nget 23 N = cv 2 W
def Rds (f : Int) (W : Nat) (rs : Nat → Rd) : Prop := ∀ i, i < 4 → (rs i).Ok f W
def upd (rs : Nat → Rd) (n : Nat) (r : Rd) : Nat → Rd := fun i => if i = n then r else rs i
theorem Rds.upd {f : Int} {W : Nat} {rs : Nat → Rd} (h : Rds f W rs) (n : Nat) {r : Rd} (hr : r.Ok f W) : Rds f W (upd rs n r) := by
  intro i hi
  unfold Go.Proofs.Ythmabnigdnbdkaa.upd
  split
  · exact hr
  · exact h i hi
def rbl (rs : Nat → Rd) : Array Value := rblk (rs 0) (rs 1) (rs 2) (rs 3)
theorem rbl_get (rs : Nat → Rd) {n : Nat} (hn : n < 4) : (rbl rs)[n * 6]? = some (.int .i64 (rs n).at_) ∧ (rbl rs)[n * 6 + 1]? = some (.int .i64 (rs n).v) ∧ (rbl rs)[n * 6 + 2]? = some (.int .i64 (rs n).g0) ∧ (rbl rs)[n * 6 + 3]? = some (.int .i64 (rs n).g1) ∧ (rbl rs)[n * 6 + 4]? = some (.int .i64 (rs n).g2) ∧ (rbl rs)[n * 6 + 5]? = some (.int .i64 (rs n).since) := by
  rcases (by omega : n = 0 ∨ n = 1 ∨ n = 2 ∨ n = 3) with rfl | rfl | rfl | rfl <;> exact ⟨rfl, rfl, rfl, rfl, rfl, rfl⟩
theorem rbl_set (rs : Nat → Rd) {n : Nat} (hn : n < 4) (r : Rd) {a b c d e g : Int} (ha : a = r.at_) (hb : b = r.v) (hc : c = r.g0) (hd : d = r.g1) (he : e = r.g2) (hg : g = r.since) :
    (((((((rbl rs).setIfInBounds (n * 6) (.int .i64 a)).setIfInBounds (n * 6 + 1) (.int .i64 b)).setIfInBounds (n * 6 + 2) (.int .i64 c)).setIfInBounds (n * 6 + 3) (.int .i64 d)).setIfInBounds (n * 6 + 4) (.int .i64 e)).setIfInBounds (n * 6 + 5) (.int .i64 g)) = rbl (upd rs n r) := by
  subst ha hb hc hd he hg
  rcases (by omega : n = 0 ∨ n = 1 ∨ n = 2 ∨ n = 3) with rfl | rfl | rfl | rfl <;> simp [rbl, rblk, upd]
/-- The state of a round. -/
structure Inv (w0 : World) (p m s rb : Nat) (f : Int) (W : Nat) (w : World) : Prop where
  ex : ∃ N, Off w0 p m s 0 N w ∧ St f W N
  rds : ∃ rs, Rds f W rs ∧ w.heap[rb]? = some (.cells (rbl rs) 56 (0, 0))

theorem Kt.undrew {w w' : World} (h : Kt w.drew w') : Kt w w' := h
theorem Kt.at {w w' : World} (h : Kt w w') {l : Nat} {cs : Array Value} {t : TypeId} {fz : Nat × Nat} (hl : w.heap[l]? = some (.cells cs t fz)) (h1 : t ≠ 91) (h2 : t ≠ 88) : w'.heap[l]? = some (.cells cs t fz) := (h l cs t fz hl h1 h2).trans hl
theorem Rd.Ok.begin {f : Int} {W : Nat} {r : Rd} (_ : r.Ok f W) : Rd.Ok f W ⟨1, wrap64 (f + cn W), 0, 0, 0, W⟩ :=
  ⟨by simp, Nat.le_refl _, fun _ => rfl, fun h => absurd h (by simp), fun h => absurd h (by simp), fun h => absurd h (by simp)⟩
theorem Rd.Ok.read0 {f : Int} {W s : Nat} {v a0 a1 a2 g : Int} (h : Rd.Ok f W ⟨1, v, a0, a1, a2, s⟩) (e : g = cv 0 W) : Rd.Ok f W ⟨2, v, g, a1, a2, s⟩ :=
  ⟨by simp, h.since, fun _ => h.v (by simp), fun _ => ⟨W, h.since, Nat.le_refl _, e⟩, fun h => absurd h (by simp), fun h => absurd h (by simp)⟩
theorem Rd.Ok.read1 {f : Int} {W s : Nat} {v a0 a1 a2 g : Int} (h : Rd.Ok f W ⟨2, v, a0, a1, a2, s⟩) (e : g = cv 1 W) : Rd.Ok f W ⟨3, v, a0, g, a2, s⟩ :=
  ⟨by simp, h.since, fun _ => h.v (by simp), fun _ => h.g0 (by simp), fun _ => ⟨W, h.since, Nat.le_refl _, e⟩, fun h => absurd h (by simp)⟩
theorem Rd.Ok.read2 {f : Int} {W s : Nat} {v a0 a1 a2 g : Int} (h : Rd.Ok f W ⟨3, v, a0, a1, a2, s⟩) (e : g = cv 2 W) : Rd.Ok f W ⟨4, v, a0, a1, g, s⟩ :=
  ⟨by simp, h.since, fun _ => h.v (by simp), fun _ => h.g0 (by simp), fun _ => h.g1 (by simp), fun _ => ⟨W, h.since, Nat.le_refl _, e⟩⟩
theorem u9 : u64s 0 9 = 9 := by decide
theorem St.turn {f : Int} {W : Nat} {N : List (Int × Int)} (h : St f W N) (hW : W % 5 = 0 ∨ W % 5 = 4) : St f (W + 1) (nput (u64s 0 9) (wrap64 (nget (u64s 0 9) N + 1)) N) := by
  rw [u9]
  refine ⟨?_, ?_, ?_, ?_⟩
  · rw [nget_put, if_pos rfl, h.c9, cn_turn hW]
    unfold wrap64
    omega
  · rw [nget_put, if_neg (by decide), h.c1, cv_stay (by decide) (by omega)]
  · rw [nget_put, if_neg (by decide), h.c2, cv_stay (by decide) (by omega)]
  · rw [nget_put, if_neg (by decide), h.c3, cv_stay (by decide) (by omega)]
theorem St.set {f : Int} {W : Nat} {N : List (Int × Int)} (h : St f W N) {j : Nat} (hj : j < 3) (hW : W % 5 = j + 1) {v : Int} (hv : v = ((W / 5 + 1 : Nat) : Int)) : St f (W + 1) (nput (21 + j) v N) := by
  subst hv
  have h9 : cn (W + 1) = cn W := cn_stay (by omega) (by omega)
  refine ⟨?_, ?_, ?_, ?_⟩
  · rw [nget_put, if_neg (by omega), h.c9, h9]
  · rw [nget_put]
    by_cases e : j = 0
    · subst e
      rw [if_pos (by decide), cv_set (by decide) hW]
    · rw [if_neg (by omega), h.c1, cv_stay (by decide) (by omega)]
  · rw [nget_put]
    by_cases e : j = 1
    · subst e
      rw [if_pos (by decide), cv_set (by decide) hW]
    · rw [if_neg (by omega), h.c2, cv_stay (by decide) (by omega)]
  · rw [nget_put]
    by_cases e : j = 2
    · subst e
      rw [if_pos (by decide), cv_set (by decide) hW]
    · rw [if_neg (by omega), h.c3, cv_stay (by decide) (by omega)]
theorem Rds.later {f : Int} {W : Nat} {rs : Nat → Rd} (h : Rds f W rs) : Rds f (W + 1) rs := fun i hi => (h i hi).later
theorem Off.setCell {w0 w : World} {p m s : Nat} {base : Int} {N : List (Int × Int)} (h : Off w0 p m s base N w) {l : Nat} {cs : Array Value} {t : TypeId} {fz : Nat × Nat} (hl : w.heap[l]? = some (.cells cs t fz))
    (h1 : t ≠ 91) (h2 : t ≠ 88) (h3 : t ≠ 112) (h0 : w0.heap.size ≤ l) (i : Nat) (u : Value) : Off w0 p m s base N (w.setCell ⟨l, i, none⟩ u) := by
  obtain ⟨sv, hc, hk⟩ := h.ex
  have ha := hc.away hl h1 h2
  have hs : s ≠ l := by
    rintro rfl
    have := h.seq
    rw [SeqAt, hl] at this
    simp only [Option.some.injEq, Obj.cells.injEq] at this
    exact h3 this.2.1
  exact ⟨⟨sv, hc.keep (fun k hk' => Below.heap_setCell w _ _ k (by rintro rfl; exact ha hk')), hk⟩, (Below.heap_setCell w _ _ s hs).trans h.seq, h.s, h.below.setCell (p := ⟨l, i, none⟩) h0 u⟩

/-- The reader's copy at x, the readers at rb. -/
structure Pk (w0 : World) (p m s rb x : Nat) (N : List (Int × Int)) (cx cr : Array Value) (w : World) : Prop where
  off : Off w0 p m s 0 N w
  hx : w.heap[x]? = some (.cells cx 55 (0, 0))
  hr : w.heap[rb]? = some (.cells cr 56 (0, 0))
  xl : w0.heap.size ≤ x
  rl : w0.heap.size ≤ rb
  ne : x ≠ rb
theorem Pk.setx {w0 w : World} {p m s rb x : Nat} {N : List (Int × Int)} {cx cr : Array Value} (h : Pk w0 p m s rb x N cx cr w) (i : Nat) (u : Value) : Pk w0 p m s rb x N (cx.setIfInBounds i u) cr (w.setCell ⟨x, i, none⟩ u) :=
  ⟨h.off.setCell h.hx (by decide) (by decide) (by decide) h.xl i u, heap_set_here h.hx i u, (Below.heap_setCell w _ _ rb h.ne.symm).trans h.hr, h.xl, h.rl, h.ne⟩
theorem Pk.setr {w0 w : World} {p m s rb x : Nat} {N : List (Int × Int)} {cx cr : Array Value} (h : Pk w0 p m s rb x N cx cr w) (i : Nat) (u : Value) : Pk w0 p m s rb x N cx (cr.setIfInBounds i u) (w.setCell ⟨rb, i, none⟩ u) :=
  ⟨h.off.setCell h.hr (by decide) (by decide) (by decide) h.rl i u, (Below.heap_setCell w _ _ x h.ne).trans h.hx, heap_set_here h.hr i u, h.xl, h.rl, h.ne⟩
theorem Pk.inv {w0 w : World} {p m s rb x : Nat} {N : List (Int × Int)} {cx cr : Array Value} {f : Int} {W : Nat} {rs : Nat → Rd} (h : Pk w0 p m s rb x N cx cr w) (hs : St f W N) (hr : Rds f W rs) (e : cr = rbl rs) : Inv w0 p m s rb f W w :=
  ⟨⟨N, h.off, hs⟩, rs, hr, e ▸ h.hr⟩

set_option maxHeartbeats 4000000 in
theorem whole_walk (first : Int) (v : Value) (zs : List Int) (_hwf : (Lit.int .i64 first).wf = true) {w : World} (hs : SlI .u8 w v zs) :
    Calls Try.prog 6 #[.int .i64 first, v] w fun e w' => e = .returned (.bool true) ∧ Below w.heap.size w w' := by
  obtain ⟨⟨ao, cap, rfl, hcs⟩, hzw⟩ := hs
  by_cases hlong : zs.length ≤ 500
  rotate_left
  · go_enter Try.func6, Try.ntmps6
    go_wp2_with fail
    refine (alive15 _).mono ?_
    rintro e w1 ⟨rfl, hB⟩
    go_wp2_with fail
    go_ret
    exact ⟨rfl, hB⟩
  · go_enter Try.func6, Try.ntmps6
    go_wp2_with fail
    refine (cells_new w).mono ?_
    rintro e w1 ⟨p, m, rfl, hc, hb, hp, hm⟩
    go_wp2_with fail
    refine (off_new (base := 0) hc hb hp hm).mono ?_
    rintro e w2 ⟨rfl, h2⟩
    go_wp2_with fail
    refine (off_write h2 0 9 _).mono ?_
    rintro e w3 ⟨rfl, h3, -⟩
    have hfe : (first - first.tmod 2) % 2 = 0 := by
      have := Int.tmod_def first 2
      omega
    have hN : St (first - first.tmod 2) 0 (nput 9 (wrap64 (first - first.tmod 2)) []) := by
      refine ⟨?_, rfl, rfl, rfl⟩
      simp [nput, nget, cn]
    generalize first - first.tmod 2 = f at h3 hfe hN ⊢
    have hrl0 : w.heap.size ≤ w3.heap.size := h3.below.size
    go_wp2_with fail
    go_loopw [8, 9] (fun v8 v9 wr => ∃ k W : Nat, k ≤ zs.length ∧ W ≤ k ∧ v8 = .int .i64 W ∧ v9 = .int .i64 k ∧ Inv w p m w1.heap.size w3.heap.size f W wr) (fun _ v9 _ => zs.length - (intOf v9).toNat)
    case atStart =>
      refine ⟨0, 0, by omega, by omega, rfl, rfl, ⟨⟨_, h3.alloc _, hN⟩, fun _ => Rd.zero, fun _ _ => Rd.Ok.zero _ _, hp_new _ _ rfl⟩⟩
    case round =>
      obtain ⟨k, W, hk, hWk, rfl, rfl, hI⟩ := hrel
      by_cases hlt : k < zs.length
      · obtain ⟨b, off, rfl, hbl, hcell⟩ := hcs (by omega)
        obtain ⟨⟨N, hO, hSt⟩, rs, hR, hrb⟩ := hI
        have hz := hcell k hlt
        have hzr := hzw _ (List.getElem_mem hlt)
        rw [List.getD_eq_getElem?_getD, List.getElem?_eq_getElem hlt, Option.getD_some] at hz
        generalize zs[k] = z at hz hzr
        have hz' : wr.cell? ⟨b, off + k, none⟩ = some (.int .u8 z) := by
          rw [← hz]
          exact World.cell?_of_block (w := w) (hO.below.block b hbl)
        have hz0 : 0 ≤ z ∧ z < 256 := by
          simp [Lit.wf, IntKind.min, IntKind.max, IntKind.signed, IntKind.bits] at hzr
          omega
        by_cases h4 : z.tmod 5 = 4
        · have hWc : (W : Int).tmod 5 = 0 ∨ (W : Int).tmod 5 = 1 ∨ (W : Int).tmod 5 = 2 ∨ (W : Int).tmod 5 = 3 ∨ (W : Int).tmod 5 = 4 := by
            rw [Int.tmod_eq_emod_of_nonneg (by omega)]
            omega
          have hWe : (W : Int).tmod 5 = ((W % 5 : Nat) : Int) := by
            rw [Int.tmod_eq_emod_of_nonneg (by omega)]
            rfl
          rcases hWc with hW0 | hW0 | hW0 | hW0 | hW0
          · have hWn : W % 5 = 0 := by omega
            clear hWe
            go_wp2_with fail
            refine (off_open hO 9 9 _ rfl).mono ?_
            rintro e w5 ⟨rfl, h5, hkt⟩
            go_wp2_with fail
            go_roundw
            case rel => exact ⟨k + 1, W + 1, by omega, by omega, rfl, rfl, ⟨_, h5, hSt.turn (.inl hWn)⟩, rs, hR.later, (hkt _ _ _ _ hrb (by decide) (by decide)).trans hrb⟩
            case measure => simp [intOf]; omega
          · have hWn : W % 5 = 0 + 1 := by omega
            clear hWe
            go_wp2_with fail
            refine (off_write hO 9 _ _).mono ?_
            rintro e w5 ⟨rfl, h5, hkt⟩
            go_wp2_with fail
            go_roundw
            case rel => exact ⟨k + 1, W + 1, by omega, by omega, rfl, rfl, ⟨_, h5, hSt.set (j := 0) (by decide) hWn (by simp)⟩, rs, hR.later, (hkt _ _ _ _ hrb (by decide) (by decide)).trans hrb⟩
            case measure => simp [intOf]; omega
          · have hWn : W % 5 = 1 + 1 := by omega
            clear hWe
            go_wp2_with fail
            refine (off_write hO 9 _ _).mono ?_
            rintro e w5 ⟨rfl, h5, hkt⟩
            go_wp2_with fail
            go_roundw
            case rel => exact ⟨k + 1, W + 1, by omega, by omega, rfl, rfl, ⟨_, h5, hSt.set (j := 1) (by decide) hWn (by simp)⟩, rs, hR.later, (hkt _ _ _ _ hrb (by decide) (by decide)).trans hrb⟩
            case measure => simp [intOf]; omega
          · have hWn : W % 5 = 2 + 1 := by omega
            clear hWe
            go_wp2_with fail
            refine (off_write hO 9 _ _).mono ?_
            rintro e w5 ⟨rfl, h5, hkt⟩
            go_wp2_with fail
            go_roundw
            case rel => exact ⟨k + 1, W + 1, by omega, by omega, rfl, rfl, ⟨_, h5, hSt.set (j := 2) (by decide) hWn (by simp)⟩, rs, hR.later, (hkt _ _ _ _ hrb (by decide) (by decide)).trans hrb⟩
            case measure => simp [intOf]; omega
          · have hWn : W % 5 = 4 := by omega
            clear hWe
            go_wp2_with fail
            refine (off_close hO 9 9 _ rfl).mono ?_
            rintro e w5 ⟨rfl, h5, hkt⟩
            go_wp2_with fail
            go_roundw
            case rel => exact ⟨k + 1, W + 1, by omega, by omega, rfl, rfl, ⟨_, h5, hSt.turn (.inr hWn)⟩, rs, hR.later, (hkt _ _ _ _ hrb (by decide) (by decide)).trans hrb⟩
            case measure => simp [intOf]; omega
        · obtain ⟨n, hn, hzn⟩ : ∃ n : Nat, n < 4 ∧ z.tmod 5 = (n : Int) := by
            rw [Int.tmod_eq_emod_of_nonneg (by omega)] at h4 ⊢
            exact ⟨(z % 5).toNat, by omega, by omega⟩
          rw [hzn] at h4
          have hrl : w3.heap.size < wr.heap.size := (Array.getElem?_eq_some_iff.1 hrb).1
          have hOk := hR n hn
          obtain ⟨g0, g1, g2, g3, g4, g5⟩ := rbl_get rs hn
          have e0 := (cl_of hrb (n * 6)).trans g0
          have e1 := (cl_of hrb (n * 6 + 1)).trans g1
          have e2 := (cl_of hrb (n * 6 + 2)).trans g2
          have e3 := (cl_of hrb (n * 6 + 3)).trans g3
          have e4 := (cl_of hrb (n * 6 + 4)).trans g4
          have e5 := (cl_of hrb (n * 6 + 5)).trans g5
          generalize hr0 : rs n = r0 at *
          obtain ⟨aa, av, a0, a1, a2, sn⟩ := r0
          simp only at e0 e1 e2 e3 e4 e5
          rcases (by have := hOk.at_; simp only at this; omega : aa = 0 ∨ aa = 1 ∨ aa = 2 ∨ aa = 3 ∨ aa = 4) with rfl | rfl | rfl | rfl | rfl
          · go_wp2_with fail
            refine (off_begin (hO.alloc _) n 9 (wrap64 (f + cn W)) (by rw [u9]; exact hSt.c9)).mono ?_
            rintro e w5 ⟨rfl, h5, hkt⟩
            have hx := (hkt wr.heap.size _ _ _ (hp_new wr _ rfl) (by decide) (by decide)).trans (hp_new wr _ rfl)
            have hr := (hkt w3.heap.size _ _ _ ((hp_old wr _ hrl).trans hrb) (by decide) (by decide)).trans ((hp_old wr _ hrl).trans hrb)
            have PK : Pk w p m w1.heap.size w3.heap.size wr.heap.size N _ _ w5 := ⟨h5, hx, hr, by omega, hrl0, by omega⟩
            have x0 := cl_of hx 0
            have x1 := cl_of hx 1
            have x2 := cl_of hx 2
            have x3 := cl_of hx 3
            have x4 := cl_of hx 4
            have x5 := cl_of hx 5
            have y0 := fz_of hx 0
            have y1 := fz_of hx 1
            have y2 := fz_of hx 2
            have y3 := fz_of hx 3
            have y4 := fz_of hx 4
            have y5 := fz_of hx 5
            replace e0 := (cl_of hr (n * 6)).trans g0
            replace e1 := (cl_of hr (n * 6 + 1)).trans g1
            replace e2 := (cl_of hr (n * 6 + 2)).trans g2
            replace e3 := (cl_of hr (n * 6 + 3)).trans g3
            replace e4 := (cl_of hr (n * 6 + 4)).trans g4
            replace e5 := (cl_of hr (n * 6 + 5)).trans g5
            have z0 := fz_of hr (n * 6)
            have z1 := fz_of hr (n * 6 + 1)
            have z2 := fz_of hr (n * 6 + 2)
            have z3 := fz_of hr (n * 6 + 3)
            have z4 := fz_of hr (n * 6 + 4)
            have z5 := fz_of hr (n * 6 + 5)
            go_wp2_with fail
            go_roundw
            case rel => exact ⟨k + 1, W, by omega, by omega, rfl, rfl, ((((((((((((PK.setx 0 _).setx 1 _).setx 2 _).setx 3 _).setx 4 _).setx 5 _).setr (n * 6) _).setr (n * 6 + 1) _).setr (n * 6 + 2) _).setr (n * 6 + 3) _).setr (n * 6 + 4) _).setr (n * 6 + 5) _).inv hSt (hR.upd n hOk.begin) (rbl_set rs hn ⟨1, wrap64 (f + cn W), 0, 0, 0, W⟩ rfl rfl rfl rfl rfl rfl)⟩
            case measure => simp [intOf]; omega
          · go_wp2_with fail
            have hX : ((wr.alloc (.cells #[.int .i64 1, .int .i64 av, .int .i64 a0, .int .i64 a1, .int .i64 a2, .int .i64 sn] 55 (0, 0))).alloc (.cells #[.int .i64 a0, .int .i64 a1, .int .i64 a2] 53 (0, 0))).heap[wr.heap.size]? = some (.cells #[.int .i64 1, .int .i64 av, .int .i64 a0, .int .i64 a1, .int .i64 a2, .int .i64 sn] 55 (0, 0)) := (hp_old _ _ (by simp)).trans (hp_new wr _ rfl)
            have hG : ((wr.alloc (.cells #[.int .i64 1, .int .i64 av, .int .i64 a0, .int .i64 a1, .int .i64 a2, .int .i64 sn] 55 (0, 0))).alloc (.cells #[.int .i64 a0, .int .i64 a1, .int .i64 a2] 53 (0, 0))).heap[wr.heap.size + 1]? = some (.cells #[.int .i64 a0, .int .i64 a1, .int .i64 a2] 53 (0, 0)) := hp_new _ _ (by simp)
            have hB : ((wr.alloc (.cells #[.int .i64 1, .int .i64 av, .int .i64 a0, .int .i64 a1, .int .i64 a2, .int .i64 sn] 55 (0, 0))).alloc (.cells #[.int .i64 a0, .int .i64 a1, .int .i64 a2] 53 (0, 0))).heap[w3.heap.size]? = wr.heap[w3.heap.size]? := (hp_old _ _ (by simp; omega)).trans (hp_old _ _ hrl)
            have bw : IntKind.i64.wrap 0 = 0 := by decide
            go_region_held3 (fun W' => W'.cell? ⟨wr.heap.size, 0, none⟩ = some (.int .i64 1)) (first | exact cl_of hX 0 | exact cl_of (Kt.at (by assumption) hX (by decide) (by decide)) 0 | exact cl_of ((Below.heap_setCell _ _ _ _ (Nat.ne_of_lt (Nat.lt_succ_self _))).trans (Kt.at (by assumption) hX (by decide) (by decide))) 0) (first | (go_at_call 19; refine (off_read (by first | exact ((hO.alloc _).alloc _).drew | exact (hO.alloc _).alloc _) n 21).mono ?_; rintro e w5 ⟨rfl, h5, hkt⟩; replace hkt := hkt.undrew; have gc := cl_of (hkt.at hG (by decide) (by decide)) 0; have gz := fz_of (hkt.at hG (by decide) (by decide)) 0))
            first | (rename_i hK; refine hK _ _ ?_; clear hK) | (rename_i hK _; refine hK _ _ ?_; clear hK) | (rename_i hK _ _; refine hK _ _ ?_; clear hK)
            have hG5 := hkt.at hG (by decide) (by decide)
            have hX5 := hkt.at hX (by decide) (by decide)
            have hR5 := hkt.at (hB.trans hrb) (by decide) (by decide)
            obtain ⟨w6, hw6⟩ : ∃ w6, w5.setCell ⟨wr.heap.size + 1, 0, none⟩ (.int .i64 (nget 21 N)) = w6 := ⟨_, rfl⟩
            rw [hw6]
            have h6 : Off w p m w1.heap.size 0 N w6 := hw6 ▸ h5.setCell hG5 (by decide) (by decide) (by decide) (by omega) 0 _
            have hx : w6.heap[wr.heap.size]? = some (.cells #[.int .i64 1, .int .i64 av, .int .i64 a0, .int .i64 a1, .int .i64 a2, .int .i64 sn] 55 (0, 0)) := hw6 ▸ (Below.heap_setCell _ _ _ _ (Nat.ne_of_lt (Nat.lt_succ_self _))).trans hX5
            have hr : w6.heap[w3.heap.size]? = some (.cells (rbl rs) 56 (0, 0)) := hw6 ▸ (Below.heap_setCell _ _ _ _ (Nat.ne_of_lt (Nat.lt_succ_of_lt hrl))).trans hR5
            have hg : w6.heap[wr.heap.size + 1]? = some (.cells #[.int .i64 (nget 21 N), .int .i64 a1, .int .i64 a2] 53 (0, 0)) := hw6 ▸ heap_set_here hG5 0 _
            have PK : Pk w p m w1.heap.size w3.heap.size wr.heap.size N _ _ w6 := ⟨h6, hx, hr, by omega, hrl0, by omega⟩
            clear hw6 hX hG hB hG5 hX5 hR5 gc gz h5 hkt
            have x0 := cl_of hx 0
            have y0 := fz_of hx 0
            have x1 := cl_of hx 1
            have y1 := fz_of hx 1
            have x2 := cl_of hx 2
            have y2 := fz_of hx 2
            have x3 := cl_of hx 3
            have y3 := fz_of hx 3
            have x4 := cl_of hx 4
            have y4 := fz_of hx 4
            have x5 := cl_of hx 5
            have y5 := fz_of hx 5
            have u0 := cl_of hg 0
            have u1 := cl_of hg 1
            have u2 := cl_of hg 2
            replace e0 := (cl_of hr (n * 6)).trans g0
            have z0 := fz_of hr (n * 6)
            replace e1 := (cl_of hr (n * 6 + 1)).trans g1
            have z1 := fz_of hr (n * 6 + 1)
            replace e2 := (cl_of hr (n * 6 + 2)).trans g2
            have z2 := fz_of hr (n * 6 + 2)
            replace e3 := (cl_of hr (n * 6 + 3)).trans g3
            have z3 := fz_of hr (n * 6 + 3)
            replace e4 := (cl_of hr (n * 6 + 4)).trans g4
            have z4 := fz_of hr (n * 6 + 4)
            replace e5 := (cl_of hr (n * 6 + 5)).trans g5
            have z5 := fz_of hr (n * 6 + 5)
            go_wp2_with fail
            go_roundw
            case rel => exact ⟨k + 1, W, by omega, by omega, rfl, rfl, ((((((((((PK.setx 2 _).setx 3 _).setx 4 _).setx 0 _).setr (n * 6) _).setr (n * 6 + 1) _).setr (n * 6 + 2) _).setr (n * 6 + 3) _).setr (n * 6 + 4) _).setr (n * 6 + 5) _).inv hSt (hR.upd n (hOk.read0 hSt.c1)) (rbl_set rs hn ⟨2, av, (nget 21 N), a1, a2, sn⟩ rfl rfl rfl rfl rfl rfl)⟩
            case measure => simp [intOf]; omega
          · go_wp2_with fail
            have hX : ((wr.alloc (.cells #[.int .i64 2, .int .i64 av, .int .i64 a0, .int .i64 a1, .int .i64 a2, .int .i64 sn] 55 (0, 0))).alloc (.cells #[.int .i64 a0, .int .i64 a1, .int .i64 a2] 53 (0, 0))).heap[wr.heap.size]? = some (.cells #[.int .i64 2, .int .i64 av, .int .i64 a0, .int .i64 a1, .int .i64 a2, .int .i64 sn] 55 (0, 0)) := (hp_old _ _ (by simp)).trans (hp_new wr _ rfl)
            have hG : ((wr.alloc (.cells #[.int .i64 2, .int .i64 av, .int .i64 a0, .int .i64 a1, .int .i64 a2, .int .i64 sn] 55 (0, 0))).alloc (.cells #[.int .i64 a0, .int .i64 a1, .int .i64 a2] 53 (0, 0))).heap[wr.heap.size + 1]? = some (.cells #[.int .i64 a0, .int .i64 a1, .int .i64 a2] 53 (0, 0)) := hp_new _ _ (by simp)
            have hB : ((wr.alloc (.cells #[.int .i64 2, .int .i64 av, .int .i64 a0, .int .i64 a1, .int .i64 a2, .int .i64 sn] 55 (0, 0))).alloc (.cells #[.int .i64 a0, .int .i64 a1, .int .i64 a2] 53 (0, 0))).heap[w3.heap.size]? = wr.heap[w3.heap.size]? := (hp_old _ _ (by simp; omega)).trans (hp_old _ _ hrl)
            have bw : IntKind.i64.wrap 1 = 1 := by decide
            go_region_held3 (fun W' => W'.cell? ⟨wr.heap.size, 0, none⟩ = some (.int .i64 2)) (first | exact cl_of hX 0 | exact cl_of (Kt.at (by assumption) hX (by decide) (by decide)) 0 | exact cl_of ((Below.heap_setCell _ _ _ _ (Nat.ne_of_lt (Nat.lt_succ_self _))).trans (Kt.at (by assumption) hX (by decide) (by decide))) 0) (first | (go_at_call 19; refine (off_read (by first | exact ((hO.alloc _).alloc _).drew | exact (hO.alloc _).alloc _) n 22).mono ?_; rintro e w5 ⟨rfl, h5, hkt⟩; replace hkt := hkt.undrew; have gc := cl_of (hkt.at hG (by decide) (by decide)) 1; have gz := fz_of (hkt.at hG (by decide) (by decide)) 1))
            first | (rename_i hK; refine hK _ _ ?_; clear hK) | (rename_i hK _; refine hK _ _ ?_; clear hK) | (rename_i hK _ _; refine hK _ _ ?_; clear hK)
            have hG5 := hkt.at hG (by decide) (by decide)
            have hX5 := hkt.at hX (by decide) (by decide)
            have hR5 := hkt.at (hB.trans hrb) (by decide) (by decide)
            obtain ⟨w6, hw6⟩ : ∃ w6, w5.setCell ⟨wr.heap.size + 1, 1, none⟩ (.int .i64 (nget 22 N)) = w6 := ⟨_, rfl⟩
            rw [hw6]
            have h6 : Off w p m w1.heap.size 0 N w6 := hw6 ▸ h5.setCell hG5 (by decide) (by decide) (by decide) (by omega) 1 _
            have hx : w6.heap[wr.heap.size]? = some (.cells #[.int .i64 2, .int .i64 av, .int .i64 a0, .int .i64 a1, .int .i64 a2, .int .i64 sn] 55 (0, 0)) := hw6 ▸ (Below.heap_setCell _ _ _ _ (Nat.ne_of_lt (Nat.lt_succ_self _))).trans hX5
            have hr : w6.heap[w3.heap.size]? = some (.cells (rbl rs) 56 (0, 0)) := hw6 ▸ (Below.heap_setCell _ _ _ _ (Nat.ne_of_lt (Nat.lt_succ_of_lt hrl))).trans hR5
            have hg : w6.heap[wr.heap.size + 1]? = some (.cells #[.int .i64 a0, .int .i64 (nget 22 N), .int .i64 a2] 53 (0, 0)) := hw6 ▸ heap_set_here hG5 1 _
            have PK : Pk w p m w1.heap.size w3.heap.size wr.heap.size N _ _ w6 := ⟨h6, hx, hr, by omega, hrl0, by omega⟩
            clear hw6 hX hG hB hG5 hX5 hR5 gc gz h5 hkt
            have x0 := cl_of hx 0
            have y0 := fz_of hx 0
            have x1 := cl_of hx 1
            have y1 := fz_of hx 1
            have x2 := cl_of hx 2
            have y2 := fz_of hx 2
            have x3 := cl_of hx 3
            have y3 := fz_of hx 3
            have x4 := cl_of hx 4
            have y4 := fz_of hx 4
            have x5 := cl_of hx 5
            have y5 := fz_of hx 5
            have u0 := cl_of hg 0
            have u1 := cl_of hg 1
            have u2 := cl_of hg 2
            replace e0 := (cl_of hr (n * 6)).trans g0
            have z0 := fz_of hr (n * 6)
            replace e1 := (cl_of hr (n * 6 + 1)).trans g1
            have z1 := fz_of hr (n * 6 + 1)
            replace e2 := (cl_of hr (n * 6 + 2)).trans g2
            have z2 := fz_of hr (n * 6 + 2)
            replace e3 := (cl_of hr (n * 6 + 3)).trans g3
            have z3 := fz_of hr (n * 6 + 3)
            replace e4 := (cl_of hr (n * 6 + 4)).trans g4
            have z4 := fz_of hr (n * 6 + 4)
            replace e5 := (cl_of hr (n * 6 + 5)).trans g5
            have z5 := fz_of hr (n * 6 + 5)
            go_wp2_with fail
            go_roundw
            case rel => exact ⟨k + 1, W, by omega, by omega, rfl, rfl, ((((((((((PK.setx 2 _).setx 3 _).setx 4 _).setx 0 _).setr (n * 6) _).setr (n * 6 + 1) _).setr (n * 6 + 2) _).setr (n * 6 + 3) _).setr (n * 6 + 4) _).setr (n * 6 + 5) _).inv hSt (hR.upd n (hOk.read1 hSt.c2)) (rbl_set rs hn ⟨3, av, a0, (nget 22 N), a2, sn⟩ rfl rfl rfl rfl rfl rfl)⟩
            case measure => simp [intOf]; omega
          · go_wp2_with fail
            have hX : ((wr.alloc (.cells #[.int .i64 3, .int .i64 av, .int .i64 a0, .int .i64 a1, .int .i64 a2, .int .i64 sn] 55 (0, 0))).alloc (.cells #[.int .i64 a0, .int .i64 a1, .int .i64 a2] 53 (0, 0))).heap[wr.heap.size]? = some (.cells #[.int .i64 3, .int .i64 av, .int .i64 a0, .int .i64 a1, .int .i64 a2, .int .i64 sn] 55 (0, 0)) := (hp_old _ _ (by simp)).trans (hp_new wr _ rfl)
            have hG : ((wr.alloc (.cells #[.int .i64 3, .int .i64 av, .int .i64 a0, .int .i64 a1, .int .i64 a2, .int .i64 sn] 55 (0, 0))).alloc (.cells #[.int .i64 a0, .int .i64 a1, .int .i64 a2] 53 (0, 0))).heap[wr.heap.size + 1]? = some (.cells #[.int .i64 a0, .int .i64 a1, .int .i64 a2] 53 (0, 0)) := hp_new _ _ (by simp)
            have hB : ((wr.alloc (.cells #[.int .i64 3, .int .i64 av, .int .i64 a0, .int .i64 a1, .int .i64 a2, .int .i64 sn] 55 (0, 0))).alloc (.cells #[.int .i64 a0, .int .i64 a1, .int .i64 a2] 53 (0, 0))).heap[w3.heap.size]? = wr.heap[w3.heap.size]? := (hp_old _ _ (by simp; omega)).trans (hp_old _ _ hrl)
            have bw : IntKind.i64.wrap 2 = 2 := by decide
            go_region_held3 (fun W' => W'.cell? ⟨wr.heap.size, 0, none⟩ = some (.int .i64 3)) (first | exact cl_of hX 0 | exact cl_of (Kt.at (by assumption) hX (by decide) (by decide)) 0 | exact cl_of ((Below.heap_setCell _ _ _ _ (Nat.ne_of_lt (Nat.lt_succ_self _))).trans (Kt.at (by assumption) hX (by decide) (by decide))) 0) (first | (go_at_call 19; refine (off_read (by first | exact ((hO.alloc _).alloc _).drew | exact (hO.alloc _).alloc _) n 23).mono ?_; rintro e w5 ⟨rfl, h5, hkt⟩; replace hkt := hkt.undrew; have gc := cl_of (hkt.at hG (by decide) (by decide)) 2; have gz := fz_of (hkt.at hG (by decide) (by decide)) 2))
            first | (rename_i hK; refine hK _ _ ?_; clear hK) | (rename_i hK _; refine hK _ _ ?_; clear hK) | (rename_i hK _ _; refine hK _ _ ?_; clear hK)
            have hG5 := hkt.at hG (by decide) (by decide)
            have hX5 := hkt.at hX (by decide) (by decide)
            have hR5 := hkt.at (hB.trans hrb) (by decide) (by decide)
            obtain ⟨w6, hw6⟩ : ∃ w6, w5.setCell ⟨wr.heap.size + 1, 2, none⟩ (.int .i64 (nget 23 N)) = w6 := ⟨_, rfl⟩
            rw [hw6]
            have h6 : Off w p m w1.heap.size 0 N w6 := hw6 ▸ h5.setCell hG5 (by decide) (by decide) (by decide) (by omega) 2 _
            have hx : w6.heap[wr.heap.size]? = some (.cells #[.int .i64 3, .int .i64 av, .int .i64 a0, .int .i64 a1, .int .i64 a2, .int .i64 sn] 55 (0, 0)) := hw6 ▸ (Below.heap_setCell _ _ _ _ (Nat.ne_of_lt (Nat.lt_succ_self _))).trans hX5
            have hr : w6.heap[w3.heap.size]? = some (.cells (rbl rs) 56 (0, 0)) := hw6 ▸ (Below.heap_setCell _ _ _ _ (Nat.ne_of_lt (Nat.lt_succ_of_lt hrl))).trans hR5
            have hg : w6.heap[wr.heap.size + 1]? = some (.cells #[.int .i64 a0, .int .i64 a1, .int .i64 (nget 23 N)] 53 (0, 0)) := hw6 ▸ heap_set_here hG5 2 _
            have PK : Pk w p m w1.heap.size w3.heap.size wr.heap.size N _ _ w6 := ⟨h6, hx, hr, by omega, hrl0, by omega⟩
            clear hw6 hX hG hB hG5 hX5 hR5 gc gz h5 hkt
            have x0 := cl_of hx 0
            have y0 := fz_of hx 0
            have x1 := cl_of hx 1
            have y1 := fz_of hx 1
            have x2 := cl_of hx 2
            have y2 := fz_of hx 2
            have x3 := cl_of hx 3
            have y3 := fz_of hx 3
            have x4 := cl_of hx 4
            have y4 := fz_of hx 4
            have x5 := cl_of hx 5
            have y5 := fz_of hx 5
            have u0 := cl_of hg 0
            have u1 := cl_of hg 1
            have u2 := cl_of hg 2
            replace e0 := (cl_of hr (n * 6)).trans g0
            have z0 := fz_of hr (n * 6)
            replace e1 := (cl_of hr (n * 6 + 1)).trans g1
            have z1 := fz_of hr (n * 6 + 1)
            replace e2 := (cl_of hr (n * 6 + 2)).trans g2
            have z2 := fz_of hr (n * 6 + 2)
            replace e3 := (cl_of hr (n * 6 + 3)).trans g3
            have z3 := fz_of hr (n * 6 + 3)
            replace e4 := (cl_of hr (n * 6 + 4)).trans g4
            have z4 := fz_of hr (n * 6 + 4)
            replace e5 := (cl_of hr (n * 6 + 5)).trans g5
            have z5 := fz_of hr (n * 6 + 5)
            go_wp2_with fail
            go_roundw
            case rel => exact ⟨k + 1, W, by omega, by omega, rfl, rfl, ((((((((((PK.setx 2 _).setx 3 _).setx 4 _).setx 0 _).setr (n * 6) _).setr (n * 6 + 1) _).setr (n * 6 + 2) _).setr (n * 6 + 3) _).setr (n * 6 + 4) _).setr (n * 6 + 5) _).inv hSt (hR.upd n (hOk.read2 hSt.c3)) (rbl_set rs hn ⟨4, av, a0, a1, (nget 23 N), sn⟩ rfl rfl rfl rfl rfl rfl)⟩
            case measure => simp [intOf]; omega
          · by_cases hsame : wrap64 (f + cn W) = av ∧ av.tmod 2 = 0
            · obtain ⟨q0, q1, q2, q3⟩ := hOk.whole hfe (by omega) rfl hsame.1 hsame.2
              simp only at q0 q1 q2 q3
              subst q0 q1 q3
              obtain rfl : a0 = (sn : Int) / 5 := by omega
              clear q2
              go_wp2_with fail
              refine (off_same (hO.alloc _) n 9 av true (by rw [u9, hSt.c9]; simp [hsame])).mono ?_
              rintro e w5 ⟨rfl, h5, hkt⟩
              have hx := (hkt wr.heap.size _ _ _ (hp_new wr _ rfl) (by decide) (by decide)).trans (hp_new wr _ rfl)
              have hr := (hkt w3.heap.size _ _ _ ((hp_old wr _ hrl).trans hrb) (by decide) (by decide)).trans ((hp_old wr _ hrl).trans hrb)
              have PK : Pk w p m w1.heap.size w3.heap.size wr.heap.size N _ _ w5 := ⟨h5, hx, hr, by omega, hrl0, by omega⟩
              have x0 := cl_of hx 0
              have x1 := cl_of hx 1
              have x2 := cl_of hx 2
              have x3 := cl_of hx 3
              have x4 := cl_of hx 4
              have x5 := cl_of hx 5
              have y0 := fz_of hx 0
              have y1 := fz_of hx 1
              have y2 := fz_of hx 2
              have y3 := fz_of hx 3
              have y4 := fz_of hx 4
              have y5 := fz_of hx 5
              replace e0 := (cl_of hr (n * 6)).trans g0
              replace e1 := (cl_of hr (n * 6 + 1)).trans g1
              replace e2 := (cl_of hr (n * 6 + 2)).trans g2
              replace e3 := (cl_of hr (n * 6 + 3)).trans g3
              replace e4 := (cl_of hr (n * 6 + 4)).trans g4
              replace e5 := (cl_of hr (n * 6 + 5)).trans g5
              have z0 := fz_of hr (n * 6)
              have z1 := fz_of hr (n * 6 + 1)
              have z2 := fz_of hr (n * 6 + 2)
              have z3 := fz_of hr (n * 6 + 3)
              have z4 := fz_of hr (n * 6 + 4)
              have z5 := fz_of hr (n * 6 + 5)
              go_wp2_with fail
              go_roundw
              case rel => exact ⟨k + 1, sn, by omega, by omega, rfl, rfl, ((((((((((((PK.setx 0 _).setx 1 _).setx 2 _).setx 3 _).setx 4 _).setx 5 _).setr (n * 6) _).setr (n * 6 + 1) _).setr (n * 6 + 2) _).setr (n * 6 + 3) _).setr (n * 6 + 4) _).setr (n * 6 + 5) _).inv hSt (hR.upd n (Rd.Ok.zero f sn)) (rbl_set rs hn Rd.zero rfl rfl rfl rfl rfl rfl)⟩
              case measure => simp [intOf]; omega
            · have hbs : decide (nget (u64s 0 9) N = av ∧ av.tmod 2 = 0) = false := by rw [u9, hSt.c9]; simpa using hsame
              have hno : ¬ (W = sn ∧ W % 5 = 0) := fun h => hsame (hOk.same hfe rfl h.1 h.2)
              by_cases hws : W = sn
              · subst hws
                have hw5 : ((W : Int) % 5 == 0) = false := by
                  rw [beq_eq_false_iff_ne]
                  omega
                go_wp2_with fail
                refine (off_same (hO.alloc _) n 9 av false hbs).mono ?_
                rintro e w5 ⟨rfl, h5, hkt⟩
                have hx := (hkt wr.heap.size _ _ _ (hp_new wr _ rfl) (by decide) (by decide)).trans (hp_new wr _ rfl)
                have hr := (hkt w3.heap.size _ _ _ ((hp_old wr _ hrl).trans hrb) (by decide) (by decide)).trans ((hp_old wr _ hrl).trans hrb)
                have PK : Pk w p m w1.heap.size w3.heap.size wr.heap.size N _ _ w5 := ⟨h5, hx, hr, by omega, hrl0, by omega⟩
                have x0 := cl_of hx 0
                have x1 := cl_of hx 1
                have x2 := cl_of hx 2
                have x3 := cl_of hx 3
                have x4 := cl_of hx 4
                have x5 := cl_of hx 5
                have y0 := fz_of hx 0
                have y1 := fz_of hx 1
                have y2 := fz_of hx 2
                have y3 := fz_of hx 3
                have y4 := fz_of hx 4
                have y5 := fz_of hx 5
                replace e0 := (cl_of hr (n * 6)).trans g0
                replace e1 := (cl_of hr (n * 6 + 1)).trans g1
                replace e2 := (cl_of hr (n * 6 + 2)).trans g2
                replace e3 := (cl_of hr (n * 6 + 3)).trans g3
                replace e4 := (cl_of hr (n * 6 + 4)).trans g4
                replace e5 := (cl_of hr (n * 6 + 5)).trans g5
                have z0 := fz_of hr (n * 6)
                have z1 := fz_of hr (n * 6 + 1)
                have z2 := fz_of hr (n * 6 + 2)
                have z3 := fz_of hr (n * 6 + 3)
                have z4 := fz_of hr (n * 6 + 4)
                have z5 := fz_of hr (n * 6 + 5)
                go_wp2_with fail
                all_goals
                  go_roundw
                  case rel => exact ⟨k + 1, W, by omega, by omega, rfl, rfl, ((((((((((((PK.setx 0 _).setx 1 _).setx 2 _).setx 3 _).setx 4 _).setx 5 _).setr (n * 6) _).setr (n * 6 + 1) _).setr (n * 6 + 2) _).setr (n * 6 + 3) _).setr (n * 6 + 4) _).setr (n * 6 + 5) _).inv hSt (hR.upd n (Rd.Ok.zero f W)) (rbl_set rs hn Rd.zero rfl rfl rfl rfl rfl rfl)⟩
                  case measure => simp [intOf]; omega
              · have hws' : ¬ (W : Int) = (sn : Int) := by omega
                go_wp2_with fail
                refine (off_same (hO.alloc _) n 9 av false hbs).mono ?_
                rintro e w5 ⟨rfl, h5, hkt⟩
                have hx := (hkt wr.heap.size _ _ _ (hp_new wr _ rfl) (by decide) (by decide)).trans (hp_new wr _ rfl)
                have hr := (hkt w3.heap.size _ _ _ ((hp_old wr _ hrl).trans hrb) (by decide) (by decide)).trans ((hp_old wr _ hrl).trans hrb)
                have PK : Pk w p m w1.heap.size w3.heap.size wr.heap.size N _ _ w5 := ⟨h5, hx, hr, by omega, hrl0, by omega⟩
                have x0 := cl_of hx 0
                have x1 := cl_of hx 1
                have x2 := cl_of hx 2
                have x3 := cl_of hx 3
                have x4 := cl_of hx 4
                have x5 := cl_of hx 5
                have y0 := fz_of hx 0
                have y1 := fz_of hx 1
                have y2 := fz_of hx 2
                have y3 := fz_of hx 3
                have y4 := fz_of hx 4
                have y5 := fz_of hx 5
                replace e0 := (cl_of hr (n * 6)).trans g0
                replace e1 := (cl_of hr (n * 6 + 1)).trans g1
                replace e2 := (cl_of hr (n * 6 + 2)).trans g2
                replace e3 := (cl_of hr (n * 6 + 3)).trans g3
                replace e4 := (cl_of hr (n * 6 + 4)).trans g4
                replace e5 := (cl_of hr (n * 6 + 5)).trans g5
                have z0 := fz_of hr (n * 6)
                have z1 := fz_of hr (n * 6 + 1)
                have z2 := fz_of hr (n * 6 + 2)
                have z3 := fz_of hr (n * 6 + 3)
                have z4 := fz_of hr (n * 6 + 4)
                have z5 := fz_of hr (n * 6 + 5)
                go_wp2_with fail
                all_goals
                  go_roundw
                  case rel => exact ⟨k + 1, W, by omega, by omega, rfl, rfl, ((((((((((((PK.setx 0 _).setx 1 _).setx 2 _).setx 3 _).setx 4 _).setx 5 _).setr (n * 6) _).setr (n * 6 + 1) _).setr (n * 6 + 2) _).setr (n * 6 + 3) _).setr (n * 6 + 4) _).setr (n * 6 + 5) _).inv hSt (hR.upd n (Rd.Ok.zero f W)) (rbl_set rs hn Rd.zero rfl rfl rfl rfl rfl rfl)⟩
                  case measure => simp [intOf]; omega
      · obtain ⟨⟨N, hO, hSt⟩, -⟩ := hI
        have hpar : wrap64 (f + cn W) % 2 = 1 ↔ ¬ W % 5 = 0 := by
          have h1 : wrap64 (f + cn W) % 2 = (cn W : Int) % 2 := by unfold wrap64; omega
          have h2 := cn_even (a := W)
          rw [h1]
          omega
        have hWe : (W : Int).tmod 5 = ((W % 5 : Nat) : Int) := by
          rw [Int.tmod_eq_emod_of_nonneg (by omega)]
          rfl
        by_cases hW5 : W % 5 = 0
        · have hb0 : decide (nget (u64s 0 9) N % 2 = 1) = false := by rw [u9, hSt.c9]; simp only [decide_eq_false_iff_not]; omega
          rw [hW5] at hWe
          go_wp2_with fail
          refine (off_busy hO 9 false hb0).mono ?_
          rintro e w5 ⟨rfl, h5, -⟩
          go_wp2_with fail
          refine (alive15 w5).mono ?_
          rintro e w6 ⟨rfl, h6⟩
          go_wp2_with fail
          go_ret
          exact ⟨rfl, h5.below.trans (h6.mono h5.below.size)⟩
        · have hb0 : decide (nget (u64s 0 9) N % 2 = 1) = true := by rw [u9, hSt.c9]; simp only [decide_eq_true_eq]; omega
          clear hWe
          have hWz : ((W : Int) % 5 != 0) = true := by rw [bne_iff_ne]; omega
          go_wp2_with fail
          refine (off_busy hO 9 true hb0).mono ?_
          rintro e w5 ⟨rfl, h5, -⟩
          go_wp2_with fail
          refine (alive15 w5).mono ?_
          rintro e w6 ⟨rfl, h6⟩
          go_wp2_with fail
          go_ret
          exact ⟨rfl, h5.below.trans (h6.mono h5.below.size)⟩
end Go.Proofs.Ythmabnigdnbdkaa
