/- ClockApart: a core's stamps rise, no stamp is given twice, cores that draw stamps don't clash. -/
import Derived.Test.YthmabnigdnbdkaaClashPlain
import Derived.Test.YthmabnigdnbdkaaClockOff
import Derived.Test.YthmabnigdnbdkaaSteps
import Derived.Test.YthmabnigdnbdkaaRefCells
import Derived.Deep.QuietTactic
import Derived.BigQuiet
namespace Go.Proofs.Ythmabnigdnbdkaa
open Go.RowKit
set_option maxRecDepth 100000

structure KO (w0 : World) (p m s : Nat) (N : List (Int × Int)) (S : List Touch) (W : World) : Prop where
  co : CO w0 p m true N S W
  clk : ClkAt W s p 0
  s : w0.heap.size ≤ s
theorem KO.below {w0 W : World} {p m s : Nat} {N : List (Int × Int)} {S : List Touch} (h : KO w0 p m s N S W) : Below w0.heap.size w0 W := h.co.below
theorem KO.fr {w0 w w' : World} {p m s : Nat} {N : List (Int × Int)} {S : List Touch} (h : KO w0 p m s N S w) (hf : Fr (fun _ => False) w w') : KO w0 p m s N S w' := ⟨h.co.fr hf, h.clk.fr hf id, h.s⟩
theorem KO.step {w0 w w' : World} {p m s : Nat} {N N' : List (Int × Int)} {S S' : List Touch} {sv : Value} (h : KO w0 p m s N S w) (hc : CellsAt w p m sv true N S) (hk : ∀ k, cfoot p m sv k → w0.heap.size ≤ k) (hst : CStep w p m sv true N' S' w') : KO w0 p m s N' S' w' ∧ Kt w w' := by
  have hd := h.clk.apart hc
  refine ⟨⟨h.co.step hk hst, ?_, h.s⟩, hst.kt hc⟩
  obtain ⟨sv', a, b, c⟩ := hst
  exact h.clk.fr b hd
/-- Blocks of other types may turn. -/
theorem KO.away {w0 w w' : World} {p m s : Nat} {N : List (Int × Int)} {S : List Touch} (h : KO w0 p m s N S w) {T : Nat → Prop} (hf : Fr T w w') (hT : ∀ k, T k → w0.heap.size ≤ k ∧ ∃ cs t fz, w.heap[k]? = some (.cells cs t fz) ∧ t ≠ 91 ∧ t ≠ 88 ∧ t ≠ 116) : KO w0 p m s N S w' := by
  obtain ⟨sv, hc, hk⟩ := h.co.ex
  refine ⟨⟨⟨sv, hc.fr hf (fun k hk' e => ?_), hk⟩, Fr.step h.below hf h.below.size (fun k e => (hT k e).1)⟩, h.clk.fr hf (fun e => ?_), h.s⟩
  · obtain ⟨_, cs, t, fz, hb, h1, h2, _⟩ := hT k e
    exact hc.away hb h1 h2 hk'
  · obtain ⟨_, cs, t, fz, hb, _, _, h3⟩ := hT s e
    have := h.clk
    rw [ClkAt, hb] at this
    simp only [Option.some.injEq, Obj.cells.injEq] at this
    exact h3 this.2.1

theorem ko_no {w0 w : World} {p m s : Nat} {N : List (Int × Int)} {S : List Touch} (_h : KO w0 p m s N S w) (core least : Int) (hc : chas core = false) :
    Calls Try.prog 45 #[.pointer (some ⟨s, 0, none⟩), .int .i64 core, .int .u64 least] w fun e w' => e = .returned (.tuple #[.int .u64 0, .int .i64 2]) ∧ w = w' := clk_stamp_no w s core least hc
theorem u0 (c : Nat) (h : c < 8) : u64s 0 c = c := by rw [u64s, IntKind.wrap_u64]; omega
/-- Where no stamp is given. -/
theorem ko_full {w0 w : World} {p m s : Nat} {N : List (Int × Int)} {S : List Touch} (h : KO w0 p m s N S w) (hn : Few S) (c : Nat) (hc : c < 8) (least : Int) (h0 : 0 ≤ nget c N ∧ nget c N ≤ 4611686018427387904)
    (hf : 4611686018427387904 ≤ max (nget c N) least ∨ 4611686018427387904 < cdraw (max (nget c N) least) c) :
    Calls Try.prog 45 #[.pointer (some ⟨s, 0, none⟩), .int .i64 c, .int .u64 least] w fun e w' => e = .returned (.tuple #[.int .u64 0, .int .i64 4]) ∧ KO w0 p m s N (S ++ [⟨c, c, false⟩]) w' ∧ Kt w w' := by
  obtain ⟨sv, hcc, hk⟩ := h.co.ex
  have hch : chas c = true := by simp [chas]; omega
  have hw : cwithin (nget (u64s 0 c) N) = nget c N := by rw [u0 c hc]; unfold cwithin; rw [if_neg (by omega)]
  by_cases h1 : 4611686018427387904 ≤ max (nget c N) least
  · refine (clk_stamp_full h.clk hcc c least _ hn hch rfl (by rw [hw]; exact h1)).mono ?_
    rintro e w' ⟨rfl, hst⟩
    rw [u0 c hc] at hst
    exact ⟨rfl, h.step hcc hk hst⟩
  · refine (clk_stamp_over h.clk hcc c least _ hn hch rfl (by rw [hw]; omega) _ rfl (by rw [hw]; rcases hf with hf | hf; exact absurd hf h1; exact hf)).mono ?_
    rintro e w' ⟨rfl, hst⟩
    rw [u0 c hc] at hst
    exact ⟨rfl, h.step hcc hk hst⟩
/-- Where one is. -/
theorem ko_good {w0 w : World} {p m s : Nat} {N : List (Int × Int)} {S : List Touch} (h : KO w0 p m s N S w) (hn : Few S) (hn2 : S.length ≤ 9000) (c : Nat) (hc : c < 8) (least d : Int) (h0 : 0 ≤ nget c N ∧ nget c N ≤ 4611686018427387904)
    (h1 : max (nget c N) least < 4611686018427387904) (hd : cdraw (max (nget c N) least) c = d) (h2 : d ≤ 4611686018427387904) :
    Calls Try.prog 45 #[.pointer (some ⟨s, 0, none⟩), .int .i64 c, .int .u64 least] w fun e w' => e = .returned (.tuple #[.int .u64 d, .int .i64 0]) ∧ KO w0 p m s (nput c d N) (S ++ [⟨c, c, false⟩] ++ [⟨c, c, true⟩]) w' ∧ Kt w w' := by
  obtain ⟨sv, hcc, hk⟩ := h.co.ex
  have hch : chas c = true := by simp [chas]; omega
  have hw : cwithin (nget (u64s 0 c) N) = nget c N := by rw [u0 c hc]; unfold cwithin; rw [if_neg (by omega)]
  refine (clk_stamp_good h.clk hcc c least _ hn ⟨by simp [logged]; omega⟩ hch rfl (by rw [hw]; exact h1) d (by rw [hw]; exact hd) h2).mono ?_
  rintro e w' ⟨rfl, hst⟩
  rw [u0 c hc] at hst
  exact ⟨rfl, h.step hcc hk hst⟩

/-- The last stamps. -/
def lc (N : List (Int × Int)) : Array Value := #[.int .u64 (nget 0 N), .int .u64 (nget 1 N), .int .u64 (nget 2 N), .int .u64 (nget 3 N), .int .u64 (nget 4 N), .int .u64 (nget 5 N), .int .u64 (nget 6 N), .int .u64 (nget 7 N)]
theorem lc_get (N : List (Int × Int)) {c : Nat} (h : c < 8) : (lc N)[c]? = some (.int .u64 (nget c N)) := by
  rcases (by omega : c = 0 ∨ c = 1 ∨ c = 2 ∨ c = 3 ∨ c = 4 ∨ c = 5 ∨ c = 6 ∨ c = 7) with rfl | rfl | rfl | rfl | rfl | rfl | rfl | rfl <;> rfl
theorem lc_set (N : List (Int × Int)) {c : Nat} (d : Int) (h : c < 8) : (lc N).setIfInBounds c (.int .u64 d) = lc (nput c d N) := by
  have e : ∀ j : Int, nget j (nput c d N) = if j = c then d else nget j N := fun j => nget_put c j d N
  rcases (by omega : c = 0 ∨ c = 1 ∨ c = 2 ∨ c = 3 ∨ c = 4 ∨ c = 5 ∨ c = 6 ∨ c = 7) with rfl | rfl | rfl | rfl | rfl | rfl | rfl | rfl <;> (unfold lc; simp only [e]; rfl)
/-- What holds of stamps and touches. -/
structure Kin (N : List (Int × Int)) (S : List Touch) (G : List Int) (k : Nat) : Prop where
  bd : ∀ c : Nat, c < 8 → 0 ≤ nget c N ∧ nget c N ≤ 4611686018427387904
  own : ∀ t ∈ S, ∃ c : Nat, c < 8 ∧ t.core = c ∧ t.cell = c
  few : S.length ≤ 2 * k
  gl : G.length ≤ k
  gb : ∀ g ∈ G, 0 ≤ g ∧ g ≤ nget (g % 8) N
theorem Kin.start : Kin [] [] [] 0 := ⟨fun _ _ => by simp [nget], by simp, by simp, by simp, by simp⟩
theorem Kin.skip {N : List (Int × Int)} {S : List Touch} {G : List Int} {k : Nat} (h : Kin N S G k) : Kin N S G (k + 1) := ⟨h.bd, h.own, by have := h.few; omega, by have := h.gl; omega, h.gb⟩
theorem Kin.full {N : List (Int × Int)} {S : List Touch} {G : List Int} {k : Nat} (h : Kin N S G k) {c : Nat} (hc : c < 8) : Kin N (S ++ [⟨c, c, false⟩]) G (k + 1) := by
  refine ⟨h.bd, fun t ht => ?_, by have := h.few; simp; omega, by have := h.gl; omega, h.gb⟩
  rcases List.mem_append.1 ht with ht | ht
  · exact h.own t ht
  · simp at ht; subst ht; exact ⟨c, hc, rfl, rfl⟩
theorem Kin.good {N : List (Int × Int)} {S : List Touch} {G : List Int} {k : Nat} (h : Kin N S G k) {c : Nat} (hc : c < 8) {d : Int} (h0 : 0 ≤ d) (h1 : d ≤ 4611686018427387904) (hm : d % 8 = c) (hd : nget c N < d) : Kin (nput c d N) (S ++ [⟨c, c, false⟩] ++ [⟨c, c, true⟩]) (G ++ [d]) (k + 1) ∧ d ∉ G := by
  refine ⟨⟨fun c' hc' => ?_, fun t ht => ?_, by have := h.few; simp; omega, by have := h.gl; simp; omega, fun g hg => ?_⟩, fun hg => ?_⟩
  · rw [nget_put]
    split
    · exact ⟨h0, h1⟩
    · exact h.bd c' hc'
  · rcases List.mem_append.1 ht with ht | ht
    · rcases List.mem_append.1 ht with ht | ht
      · exact h.own t ht
      · simp at ht; subst ht; exact ⟨c, hc, rfl, rfl⟩
    · simp at ht; subst ht; exact ⟨c, hc, rfl, rfl⟩
  · rcases List.mem_append.1 hg with hg | hg
    · obtain ⟨g0, g1⟩ := h.gb g hg
      refine ⟨g0, ?_⟩
      rw [nget_put]
      split
      · rename_i e
        rw [e] at g1
        omega
      · exact g1
    · simp at hg
      subst hg
      rw [nget_put, if_pos hm]
      exact ⟨h0, Int.le_refl _⟩
  · obtain ⟨g0, g1⟩ := h.gb d hg
    rw [hm] at g1
    omega
theorem Kin.few' {N : List (Int × Int)} {S : List Touch} {G : List Int} {k : Nat} (h : Kin N S G k) (hk : k ≤ 200) : Few S := ⟨by have := h.few; omega⟩
theorem Kin.sw {N : List (Int × Int)} {S : List Touch} {G : List Int} {k : Nat} (h : Kin N S G k) : ∃ SW : List TW, SW.map Subtype.val = S := by
  refine ⟨S.attachWith (fun t => (Lit.int .u64 t.cell).wf = true) (fun t ht => ?_), by simp⟩
  obtain ⟨c, hc, _, e⟩ := h.own t ht
  rw [e]
  simp [Lit.wf, IntKind.min, IntKind.max, IntKind.signed, IntKind.bits]
  omega

set_option maxHeartbeats 16000000 in
theorem apart_walk (v : Value) (ls : List Stp) {w : World} (hs : SlS w v ls) :
    Calls Try.prog 11 #[v] w fun e w' => e = .returned (.bool true) ∧ Below w.heap.size w w' := by
  obtain ⟨⟨ao, cap, rfl, hcs⟩, hzw⟩ := hs
  by_cases hlong : ls.length ≤ 200
  rotate_left
  · go_enter Try.func11, Try.ntmps11
    go_wp2_with fail
    refine (alive16 _).mono ?_
    rintro e w1 ⟨rfl, hB⟩
    go_wp2_with fail
    go_ret
    exact ⟨rfl, hB⟩
  · go_enter Try.func11, Try.ntmps11
    go_wp2_with fail
    refine (co_new w).mono ?_
    rintro e w1 ⟨p, m, rfl, h1⟩
    go_wp2_with fail
    refine (clk_new w1 p 0).mono ?_
    rintro e w2 ⟨rfl, hq, rfl⟩
    have h2 := h1.fr (frm_alloc (Fr.refl _ w1) (.cells #[.pointer (some ⟨p, 0, none⟩), .int .u64 0] 116))
    have hs1 := h1.below.size
    generalize w1.heap.size = s at *
    generalize hw2 : w1.alloc (.cells #[.pointer (some ⟨p, 0, none⟩), .int .u64 0] 116) = w2 at *
    clear h1 hw2
    go_wp2_with fail
    obtain ⟨sv2, hc2, hk2⟩ := h2.ex
    refine (cells_note hc2 true).mono ?_
    rintro e w3 ⟨rfl, hst⟩
    have hq3 : ClkAt w3 s p 0 := by
      obtain ⟨_, _, hfr, _⟩ := hst
      exact hq.fr hfr (hq.apart hc2)
    have h3 : KO w p m s [] [] w3 := ⟨h2.step hk2 hst, hq3, hs1⟩
    clear hst hc2 hk2 h2 hq hq3
    obtain ⟨i0, hi, hz0, hz1, hz2⟩ := info_parts Try.infoKey
    have hsz3 := h3.below.size
    go_wp2_with fail
    obtain ⟨w4, hw4⟩ : ∃ w4, w3.alloc (.cells (lc []) 84) = w4 := ⟨_, rfl⟩
    have hL4 : w4.heap[w3.heap.size]? = some (.cells (lc []) 84 (0, 0)) := by rw [← hw4]; exact hp_new _ _ rfl
    have h4 : KO w p m s [] [] w4 := by rw [← hw4]; exact h3.fr (frm_alloc (Fr.refl _ _) _)
    have hlc : lc [] = #[.int .u64 0, .int .u64 0, .int .u64 0, .int .u64 0, .int .u64 0, .int .u64 0, .int .u64 0, .int .u64 0] := rfl
    rw [hlc] at hw4
    rw [hw4]
    generalize w3.heap.size = L at *
    clear hw4 h3 hlc
    go_loopw [5, 7] (fun v5 v7 wr => ∃ k : Nat, ∃ N : List (Int × Int), ∃ S : List Touch, ∃ G : List Int, k ≤ ls.length ∧ v7 = .int .i64 k ∧ KO w p m s N S wr ∧ Kin N S G k ∧ wr.heap[L]? = some (.cells (lc N) 84 (0, 0)) ∧ wr.ownsRow w.heap.size 30 1 v5 G.length (G.map (Value.int .u64))) (fun _ v7 _ => ls.length - (intOf v7).toNat)
    case atStart => exact ⟨0, [], [], [], by omega, rfl, h4, Kin.start, hL4, World.ownsRow_nil _ _ _ _⟩
    case round =>
      obtain ⟨k, N, S, G, hk, rfl, hO, hK, hL, hrow⟩ := hrel
      clear h4 hL4
      by_cases hlt : k < ls.length
      · obtain ⟨b, off, rfl, hbl, hcell⟩ := hcs (by omega)
        obtain ⟨z0, z1, z2, z3⟩ := hcell k hlt
        obtain ⟨-, hlw, -⟩ := hzw _ (List.getElem_mem hlt)
        rw [List.getD_eq_getElem?_getD, List.getElem?_eq_getElem hlt, Option.getD_some] at z0 z1 z2 z3
        generalize ls[k] = z at z0 z1 z2 z3 hlw
        obtain ⟨zc, zl, zs, zv⟩ := z
        dsimp only at z0 z1 z2 z3
        replace hlw : (Lit.int .u64 zl).wf = true := hlw
        have hl0 : 0 ≤ zl := by
          simp [Lit.wf, IntKind.min, IntKind.max, IntKind.signed, IntKind.bits] at hlw
          omega
        have F0 := (hO.below.cell (p := ⟨b, off + k * 4, none⟩) hbl).trans z0
        have F1 := (hO.below.cell (p := ⟨b, off + k * 4 + 1, none⟩) hbl).trans z1
        have F2 := (hO.below.cell (p := ⟨b, off + k * 4 + 2, none⟩) hbl).trans z2
        have F3 := (hO.below.cell (p := ⟨b, off + k * 4 + 3, none⟩) hbl).trans z3
        have hbw := hO.below.size
        have hbl2 : b < wr.heap.size := by omega
        clear z0 z1 z2 z3 hlw hcell hzw hcs hbl
        go_wp2_with fail
        obtain ⟨W5, hW5⟩ : ∃ W5, wr.alloc (.cells #[.int .i64 zc, .int .u64 zl, .bool zs, .int .i64 zv] 76) = W5 := ⟨_, rfl⟩
        have hT : W5.heap[wr.heap.size]? = some (.cells #[.int .i64 zc, .int .u64 zl, .bool zs, .int .i64 zv] 76 (0, 0)) := by rw [← hW5]; exact hp_new _ _ rfl
        have hO5 : KO w p m s N S W5 := by rw [← hW5]; exact hO.fr (frm_alloc (Fr.refl _ _) _)
        have hL5 : W5.heap[L]? = some (.cells (lc N) 84 (0, 0)) := by rw [← hW5]; exact blk_old hL _
        have hrow5 : W5.ownsRow w.heap.size 30 1 u5 G.length (G.map (Value.int .u64)) := by rw [← hW5]; exact hrow.alloc _
        have hfew := hK.few' (by omega)
        rw [hW5]
        generalize wr.heap.size = T at *
        clear hW5 hO hL hrow F0 F1 F2 F3 hbw hbl2
        have t0 : W5.cell? ⟨T, 0, none⟩ = some (.int .i64 zc) := cl_of hT 0
        have t1 : W5.cell? ⟨T, 1, none⟩ = some (.int .u64 zl) := cl_of hT 1
        by_cases hc : chas zc = false
        · have hcc : zc < 0 ∨ 7 < zc := by
            simp only [chas, decide_eq_false_iff_not] at hc
            omega
          refine (ko_no hO5 zc zl hc).mono ?_
          rintro e w6 ⟨rfl, rfl⟩
          rcases hcc with hcc | hcc
          · go_wp2_with fail
            go_roundw
            case rel => exact ⟨k + 1, N, S, G, by omega, by go_num, hO5, hK.skip, hL5, hrow5⟩
            case measure => simp [intOf]; omega
          · have hcc2 : ¬ zc < 0 := by omega
            go_wp2_with fail
            go_roundw
            case rel => exact ⟨k + 1, N, S, G, by omega, by go_num, hO5, hK.skip, hL5, hrow5⟩
            case measure => simp [intOf]; omega
        · have hcc : 0 ≤ zc ∧ zc < 8 := by
            simp only [chas, decide_eq_false_iff_not, Decidable.not_not] at hc
            exact hc
          obtain ⟨c, rfl⟩ := Int.eq_ofNat_of_zero_le hcc.1
          have hc8 : c < 8 := by omega
          obtain ⟨b0, b1⟩ := hK.bd c hc8
          clear hc
          by_cases hfull : 4611686018427387904 ≤ max (nget c N) zl ∨ 4611686018427387904 < cdraw (max (nget c N) zl) c
          · have hdg := cdraw_gt (max (nget c N) zl) c
            have hnot : 4611686018427387896 ≤ zl ∨ 4611686018427387896 ≤ nget c N := by omega
            have ho6 : ∀ W, Kt W5 W → W.cell? ⟨T, 0, none⟩ = some (.int .i64 c) ∧ W.cell? ⟨T, 1, none⟩ = some (.int .u64 zl) ∧ W.cell? ⟨L, c, none⟩ = some (.int .u64 (nget c N)) ∧ W.heap[L]? = some (.cells (lc N) 84 (0, 0)) ∧ W.ownsRow w.heap.size 30 1 u5 G.length (G.map (Value.int .u64)) := by
              intro W hkt
              have hT' := (hkt T _ _ _ hT (by decide) (by decide)).trans hT
              have hL' := (hkt L _ _ _ hL5 (by decide) (by decide)).trans hL5
              exact ⟨cl_of hT' 0, cl_of hT' 1, (cl_of hL' c).trans (lc_get N hc8), hL', ownsRowB_of_block hrow5 (fun j hj => by
                obtain ⟨cur, hb⟩ := ownsRow_type (ownsRowB_zero hrow5) hj
                exact hkt j _ _ _ hb (by decide) (by decide))⟩
            refine (ko_full hO5 hfew c hc8 zl ⟨b0, b1⟩ hfull).mono ?_
            rintro e w6 ⟨rfl, h6, hkt⟩
            obtain ⟨r0, r1, r2, r3, r4⟩ := ho6 _ hkt
            have hcz : (c : Int) < 8 := by omega
            have hcz7 : ¬ (7 : Int) < c := by omega
            clear ho6 t0 t1 hT hL5 hrow5 hO5 hfull hdg
            generalize nget c N = lv at *
            by_cases hz : zl < 4611686018427387896
            · have hz2 : ¬ lv < 4611686018427387896 := by omega
              go_wp2_with fail
              go_roundw
              case rel => exact ⟨k + 1, N, _, G, by omega, by go_num, h6, hK.full hc8, r3, r4⟩
              case measure => simp [intOf]; omega
            · go_wp2_with fail
              go_roundw
              case rel => exact ⟨k + 1, N, _, G, by omega, by go_num, h6, hK.full hc8, r3, r4⟩
              case measure => simp [intOf]; omega
          · obtain ⟨d, hd⟩ : ∃ d, cdraw (max (nget c N) zl) c = d := ⟨_, rfl⟩
            have hch : chas c = true := by simp [chas]; omega
            have hdg := cdraw_gt (max (nget c N) zl) c
            have hdm := cdraw_mod (v := max (nget c N) zl) hch
            rw [hd] at hdg hdm
            have hm1 : max (nget c N) zl < 4611686018427387904 := by omega
            have hd2 : d ≤ 4611686018427387904 := by rw [← hd]; omega
            obtain ⟨hK6, hnew⟩ := hK.good hc8 (d := d) (by omega) hd2 hdm (by omega)
            have ho6 : ∀ W, Kt W5 W → W.heap[T]? = some (.cells #[.int .i64 c, .int .u64 zl, .bool zs, .int .i64 zv] 76 (0, 0)) ∧ W.heap[L]? = some (.cells (lc N) 84 (0, 0)) ∧ W.ownsRow w.heap.size 30 1 u5 G.length (G.map (Value.int .u64)) := by
              intro W hkt
              exact ⟨(hkt T _ _ _ hT (by decide) (by decide)).trans hT, (hkt L _ _ _ hL5 (by decide) (by decide)).trans hL5, ownsRowB_of_block hrow5 (fun j hj => by
                obtain ⟨cur, hb⟩ := ownsRow_type (ownsRowB_zero hrow5) hj
                exact hkt j _ _ _ hb (by decide) (by decide))⟩
            refine (ko_good hO5 hfew (by have := hK.few; omega) c hc8 zl d ⟨b0, b1⟩ hm1 hd hd2).mono ?_
            rintro e w6 ⟨rfl, h6, hkt⟩
            obtain ⟨hT6, hL6, hrow6⟩ := ho6 _ hkt
            have r0 : w6.cell? ⟨T, 0, none⟩ = some (.int .i64 c) := cl_of hT6 0
            have r1 : w6.cell? ⟨T, 1, none⟩ = some (.int .u64 zl) := cl_of hT6 1
            have r2 : w6.cell? ⟨L, c, none⟩ = some (.int .u64 (nget c N)) := (cl_of hL6 c).trans (lc_get N hc8)
            have hcz : (c : Int) < 8 := by omega
            have hcz7 : ¬ (7 : Int) < c := by omega
            have hls := lc_set N d hc8
            have HLS := Lib.hid hls
            have HDM := Lib.hid hdm
            clear ho6 t0 t1 hT hL5 hrow5 hO5 hfull hd hls hK hdm hkt
            have HK6 := Lib.hid hK6
            have HNEW := Lib.hid hnew
            clear hK6 hnew
            generalize nget c N = lv at *
            have q1 : decide (d ≤ zl) = false := by simp; omega
            have q2 : decide (d ≤ lv) = false := by simp; omega
            obtain ⟨mx, hmx, hmx2⟩ : ∃ mx : Int, (if zl < lv then lv else zl) = mx ∧ d ≤ mx + 8 ∧ 0 ≤ mx ∧ mx < 4611686018427387904 := ⟨_, rfl, by split <;> omega, by split <;> omega, by split <;> omega⟩
            obtain ⟨m1, m2, m3⟩ := hmx2
            have q3 : IntKind.u64.wrap (mx + 8) = mx + 8 := by rw [IntKind.wrap_u64]; omega
            have q4 : decide (mx + 8 < d) = false := by simp; omega
            have hd0 : 0 ≤ d := by omega
            have q5 : ((d % 8 : Int) != (c : Int)) = false := by simp [HDM.out]
            go_wp2_with fail
            go_quiet ((go_at_call 48; exact Calls.quiet_of_same ((clk_core _ d hd0).mono (fun e w' ⟨he, hw⟩ => ⟨he, hw.symm⟩))))
            obtain ⟨ag, cg, hu5, hgc⟩ := own_form (ownsRowB_zero hrow6)
            subst hu5
            go_wp2_with fail
            have hrow7 : (w6.drewN nq).ownsRow w.heap.size 30 1 (.slice ag G.length cg) G.length (G.map (Value.int .u64)) := hrow6
            have hT7 : (w6.drewN nq).heap[T]? = some (.cells #[.int .i64 c, .int .u64 zl, .bool zs, .int .i64 zv] 76 (0, 0)) := hT6
            have hL7 : (w6.drewN nq).heap[L]? = some (.cells (lc N) 84 (0, 0)) := hL6
            have h7 := h6.fr (fr_drewN w6 nq)
            have hgc7 : 0 < G.length → ∃ g, ag = some ⟨g, 0, none⟩ ∧ ∀ (j : Nat) (u : Value), (G.map (Value.int .u64))[j]? = some u → (w6.drewN nq).cell? ⟨g, j, none⟩ = some u := fun h => by
              obtain ⟨g, e, _, _, hc⟩ := hgc h
              exact ⟨g, e, hc⟩
            generalize w6.drewN nq = w7 at *
            clear h6 hT6 hL6 hrow6 hgc r0 r1 r2 q1 q2 hmx m1 m2 m3 q3 q4 q5 hdg hm1
            have hGl : G.length ≤ 200 := by have := HK6.out.gl; simp at this; omega
            go_loop [11] (fun v11 => ∃ j : Nat, j ≤ G.length ∧ v11 = .int .i64 j) (fun v11 => G.length - (intOf v11).toNat)
            case atStart => exact ⟨0, by omega, rfl⟩
            case round =>
              obtain ⟨j, hj, rfl⟩ := hrel
              by_cases hjl : j < G.length
              · obtain ⟨g, rfl, hgc8⟩ := hgc7 (by omega)
                have hgj : (G.map (Value.int .u64))[j]? = some (.int .u64 G[j]) := by simp [hjl]
                have hne : (G[j] == d) = false := by
                  simp only [beq_eq_false_iff_ne]
                  intro e
                  exact HNEW.out (e ▸ List.getElem_mem hjl)
                have hcj := hgc8 j _ hgj
                generalize G[j] = gj at *
                clear hgj hgc8 hgc7
                go_wp2_with fail
                go_round
                case rel => exact ⟨j + 1, by omega, by go_num⟩
                case measure => simp [intOf]; omega
              · obtain rfl : j = G.length := by omega
                clear hgc7
                have hle7 := h7.below.size
                have hl2 : G.length + 1 ≤ maxLen := by unfold maxLen; omega
                go_wp2_with (at_builtin; refine wpList_append_own _ rfl _ _ 33 rfl w.heap.size 30 i0 (.int .u64 0) 1 8 Try.underlying33 hi hz0 hz1 hz2 rfl (by decide) _ _ _ rfl (hrow7.alloc _) ⟨w7.heap.size, 0, none⟩ 1 1 [.int .u64 d] rfl rfl (Go.cell_one_new _ _ _) (by simp [Value.oneCell']) hl2 (by omega) (by simp; omega) ?_)
                intro v' w8 hown' hgrow _
                have hneq : ∀ (l : Nat) (cs : Array Value) (t : TypeId), w7.heap[l]? = some (.cells cs t (0, 0)) → t ≠ 30 → w8.heap[l]? = some (.cells cs t (0, 0)) := by
                  intro l cs t hb ht
                  refine (hgrow.block l (by have := blk_lt hb; simp; omega) (fun e => ?_)).trans (blk_old hb _)
                  obtain ⟨cur, hb'⟩ := ownsRow_type (ownsRowB_zero hrow7) e.symm
                  rw [hb] at hb'
                  simp only [Option.some.injEq, Obj.cells.injEq] at hb'
                  exact ht hb'.2.1
                have hT8 := hneq T _ _ hT7 (by decide)
                have hL8 := hneq L _ _ hL7 (by decide)
                have h8 := (h7.fr (frm_alloc (Fr.refl _ w7) (.cells #[.int .u64 d] 30))).away (Fr.of_grownBy hgrow) (fun l e => by
                  refine ⟨((hrow7.alloc (.cells #[.int .u64 d] 30)).lt l e.symm).1, ?_⟩
                  obtain ⟨cur, hb'⟩ := ownsRow_type (ownsRowB_zero (hrow7.alloc (.cells #[.int .u64 d] 30))) e.symm
                  exact ⟨cur, _, _, hb', by decide, by decide, by decide⟩)
                have r0 : w8.cell? ⟨T, 0, none⟩ = some (.int .i64 c) := cl_of hT8 0
                have r2 := (cl_of hL8 c).trans (lc_get N hc8)
                have z2 := fz_of hL8 c
                have hgl' : ∀ j, v'.ownBlock = some j → j ≠ L := fun j e e' => by
                  subst e'
                  obtain ⟨cur, hb'⟩ := ownsRow_type (ownsRowB_zero hown') e
                  rw [hL8] at hb'
                  simp at hb'
                clear hneq hT7 hL7 h7 hrow7 hgrow
                go_wp2_with fail
                go_roundw
                case rel => exact ⟨k + 1, nput c d N, _, G ++ [d], by omega, by go_num, h8.away (frg_set (Fr.refl _ w8) c _) (fun l e => by subst e; exact ⟨hsz3, _, _, _, hL8, by decide, by decide, by decide⟩), HK6.out, by rw [← HLS.out]; exact blk_here hL8 c _, by simpa using ownsRowB_of_block hown' (fun j hj' => Below.heap_setCell _ _ _ j (hgl' j hj'))⟩
                case measure => simp [intOf]; omega
      · obtain rfl : k = ls.length := by omega
        obtain ⟨SW, hSW⟩ := hK.sw
        have hown : ∀ t ∈ SW, ∃ c : Nat, c < 8 ∧ t.1.core = c ∧ t.1.cell = c := fun t ht => hK.own _ (hSW ▸ List.mem_map.2 ⟨t, ht, rfl⟩)
        have hfew : Few (SW.map Subtype.val) := by rw [hSW]; exact hK.few' hlong
        have hcore : ∀ a : Nat, ∀ t ∈ SW, t.1.core = (a : Int) → t.1.cell = (a : Int) := fun a t ht e => by
          obtain ⟨c, _, h1, h2⟩ := hown t ht
          rw [h2, ← h1, e]
        rw [← hSW] at hO
        clear hcs hzw hL hrow hK hSW hi hz0 hz1 hz2
        go_wp2_with fail
        go_loopw [12, 13] (fun v12 _ wr2 => ∃ a : Nat, a ≤ 8 ∧ v12 = .int .i64 a ∧ KO w p m s N (SW.map Subtype.val) wr2) (fun v12 _ _ => 8 - (intOf v12).toNat)
        case atStart => exact ⟨0, by omega, rfl, hO⟩
        case round =>
          obtain ⟨a, ha, rfl, hO1⟩ := hrel
          clear hO
          by_cases ha8 : a < 8
          · have hab : decide ((a : Int) < 8) = true := by simp; omega
            go_wp2_with fail
            obtain ⟨wo, rfl⟩ : ∃ wo : World, wo = wr := ⟨_, rfl⟩
            go_loopw [13] (fun v13 wr3 => ∃ b : Nat, b ≤ a ∧ v13 = .int .i64 b ∧ KO w p m s N (SW.map Subtype.val) wr3) (fun v13 _ => a - (intOf v13).toNat)
            case atStart => exact ⟨0, by omega, rfl, hO1⟩
            case round =>
              obtain ⟨b, hb, rfl, hO2⟩ := hrel
              by_cases hba : b < a
              · obtain ⟨sv, hc, hk⟩ := hO2.co.ex
                have hM := cagg_two (a := a) (b := b) SW (hcore a) (hcore b)
                have hcl := apart_two (a := a) (b := b) SW (by omega) (hcore a) (hcore b) (((cagg a b SW).map Prod.fst).mergeSort (fun x y => decide (x ≤ y)))
                go_wp2_with fail
                refine (clash_few hc hfew a b (by omega) (by omega)).mono ?_
                rintro e w9 ⟨v9, cs9, rfl, he9, hr9, hb9⟩
                rw [hcl] at he9
                subst he9
                obtain ⟨ao9, cap9, rfl, -⟩ := own_form (ownsRowB_zero hr9)
                have hO9 := hO2.fr (Fr.of_below hb9)
                clear hcl hM hc hk hr9 hb9
                go_wp2_with fail
                go_roundw
                case rel => exact ⟨b + 1, by omega, by go_num, hO9⟩
                case measure => simp [intOf]; omega
              · obtain rfl : b = a := by omega
                go_wp2_with fail
                go_roundw
                case rel => exact ⟨b + 1, by omega, by go_num, hO2⟩
                case measure => simp [intOf]; omega
          · obtain rfl : a = 8 := by omega
            go_wp2_with fail
            refine (alive16 _).mono ?_
            rintro e w9 ⟨rfl, hB⟩
            go_wp2_with fail
            go_ret
            exact ⟨rfl, bt hO1.below hB⟩
end Go.Proofs.Ythmabnigdnbdkaa
