/- lunettelaw09.BmapTwice: the walk. -/
import Derived.Test.YtjjphcnoegaimaaGreatBKeeps
import Derived.Test.YtjjphcnoegaimaaGreatGV
namespace Go.Proofs.YtjjphcnoegaimaaGreat
open Go.RowKit Go.Shelf Go.Maps
set_option maxRecDepth 20000
set_option linter.unusedVariables false
set_option linter.unusedSimpArgs false

section
variable {W : World}
/-- What a round of a script reads. -/
def S9 (bg bx : Nat) (x : Ino) (b o : Nat) (sp : St9) (Wq : World) : Prop := (Wq.cell? ⟨bg, 0, none⟩ = some (.int .i64 8) ∧ Wq.cell? ⟨bg, 1, none⟩ = some (.int .i64 16) ∧ Wq.cell? ⟨bg, 2, none⟩ = some (.int .i64 40)) ∧ (Wq.cell? ⟨bx, 0, none⟩ = some (.int .u8 x.k) ∧ Wq.cell? ⟨bx, 1, none⟩ = some (.int .u16 x.l) ∧ Wq.cell? ⟨bx, 2, none⟩ = some (.int .u32 x.s) ∧ Wq.cell? ⟨bx, 3, none⟩ = some (.int .u16 x.d0) ∧ Wq.cell? ⟨bx, 4, none⟩ = some (.int .u16 x.d1) ∧ Wq.cell? ⟨bx, 5, none⟩ = some (.int .u16 x.d2) ∧ Wq.cell? ⟨bx, 6, none⟩ = some (.int .u16 x.d3) ∧ Wq.cell? ⟨bx, 7, none⟩ = some (.int .u16 x.n)) ∧ Wq.cell? ⟨b, o + 1, none⟩ = some (.int .i64 sp.page) ∧ Wq.cell? ⟨b, o + 2, none⟩ = some (.int .u16 sp.b)
theorem s9_of {bg bx : Nat} {x : Ino} {b o : Nat} {sp : St9} (h1 : W.heap[bg]? = some (.cells gvc 56 (0, 0))) (h2 : W.heap[bx]? = some (.cells (ic x) 61 (0, 0))) (h3 : W.cell? ⟨b, o + 1, none⟩ = some (.int .i64 sp.page)) (h4 : W.cell? ⟨b, o + 2, none⟩ = some (.int .u16 sp.b)) : S9 bg bx x b o sp W :=
  ⟨⟨cl_of h1 0, cl_of h1 1, cl_of h1 2⟩, ⟨cl_of h2 0, cl_of h2 1, cl_of h2 2, cl_of h2 3, cl_of h2 4, cl_of h2 5, cl_of h2 6, cl_of h2 7⟩, h3, h4⟩
theorem sets_other {b k : Nat} {u0 u1 u2 u3 u4 u5 u6 u7 : Value} (hk : k ≠ b) : ((((((((W.setCell ⟨b, 0, none⟩ u0).setCell ⟨b, 1, none⟩ u1).setCell ⟨b, 2, none⟩ u2).setCell ⟨b, 3, none⟩ u3).setCell ⟨b, 4, none⟩ u4).setCell ⟨b, 5, none⟩ u5).setCell ⟨b, 6, none⟩ u6).setCell ⟨b, 7, none⟩ u7).heap[k]? = W.heap[k]? := by
  rw [kb_set _ _ k hk, kb_set _ _ k hk, kb_set _ _ k hk, kb_set _ _ k hk, kb_set _ _ k hk, kb_set _ _ k hk, kb_set _ _ k hk, kb_set _ _ k hk]
theorem row_nil {B : Nat} {e : TypeId} {size : Nat} {v : Value} {xs : List Value} {k : Nat} (h : W.ownsRow B e size v k xs) (hk : k = 0 := by rfl) : ∃ a c, v = .slice a 0 c := by
  subst hk
  rcases h.2 with ⟨rfl, _⟩ | ⟨g, cap, cur, rfl, _⟩
  · exact ⟨_, _, rfl⟩
  · exact ⟨_, _, rfl⟩
theorem cutM_here (x : Ino) {M : Wl} {bs : Nat} (q : Nat) (h : (pget bs M).isSome = true) : (pget bs (cutM x M bs q)).isSome = true := by
  unfold cutM
  split
  · exact h
  split
  · exact h
  · exact pins_here _ _ _
/-- What is cut of an inode may be cut again. -/
theorem cut_ok {x : Ino} {M : Wl} (st : St x M 62 16) (hn : x.n = 16) (q : Nat) : (x.cut q).Wf ∧ (∀ k, k < 4 → (x.cut q).d k ≤ 16) ∧ (x.cut q).n ≤ 16 ∧ ((x.cut q).n ≠ 0 → (x.cut q).n = 16) ∧ Sz (cutM x M 62 q) ∧ (pget ((62 : Nat) : Int) (cutM x M 62 q)).isSome = true := by
  refine ⟨Ino.cut_wf st.wf q, fun k hk => ?_, ?_, ?_, cutM_sz x st.sz 62 q, cutM_here x q st.here⟩
  · rw [Ino.cut_d x q k hk]
    split
    · exact st.d k hk
    · decide
  · rw [Ino.cut_n]
    split
    · decide
    · exact st.n.2
  · rw [Ino.cut_n]
    split
    · intro h; exact absurd rfl h
    · intro _; exact hn
end

section
set_option maxHeartbeats 8000000 in
theorem twice_walk {w : World} (v : Value) (ls : List St9) (hl : Sl9 w v ls) (pa mo : Int) (hpa : 0 ≤ pa ∧ pa < 256) (hmo : 0 ≤ mo ∧ mo < 256) : Calls Tryz.prog 7 #[v, .int .u8 pa, .int .u8 mo] w fun e w' => e = .returned (.bool true) ∧ Below w.heap.size w w' := by
  have hlong := long9_any hl
  obtain ⟨⟨ao, cap, rfl, hcell⟩, hwf⟩ := hl
  have HC := Lib.hid hcell
  have HW := Lib.hid hwf
  have HLG := Lib.hid hlong
  clear hcell hwf hlong
  go_enter Tryz.func7, Tryz.ntmps7
  go_wp2_with fail
  refine HLG.out.mono ?_
  rintro e w1 ⟨lb, rfl, hlb, rfl⟩
  cases lb with
  | true =>
    go_wp2_with fail
    refine (alive09_any _).mono ?_
    rintro e w2 ⟨rfl, hB2⟩
    go_wp2_with fail
    go_ret
    exact ⟨rfl, hB2⟩
  | false =>
    have hl80 := hlb rfl
    have HL := Lib.hid hl80
    clear hlb hl80 HLG
    go_wp2_with fail
    refine (fresh_any (w0 := w) (Below.refl _ w)).mono ?_
    rintro e w2 ⟨tb, rfl, X, p, jb, m, hT, hX, hjb, htb, hm⟩
    unfold gv ic freshI
    have HT := Lib.hid hT
    clear hT
    go_wp2_with fail
    obtain ⟨W3, hW3⟩ : ∃ W3, (w2.alloc (.cells #[.int .i64 8, .int .i64 16, .int .i64 40] 56)).alloc (.cells #[.int .u8 1, .int .u16 0, .int .u32 2304, .int .u16 0, .int .u16 0, .int .u16 0, .int .u16 0, .int .u16 16] 61) = W3 := ⟨_, rfl⟩
    rw [hW3]
    have hB3 : Below w2.heap.size w2 W3 := by rw [← hW3]; exact bal (bnew _ _) _
    have b1 : W3.heap[w2.heap.size]? = some (.cells gvc 56 (0, 0)) := by rw [← hW3]; exact (hp_old _ _ (by simp)).trans (hp_new _ _ rfl)
    have b2 : W3.heap[w2.heap.size + 1]? = some (.cells (ic freshI) 61 (0, 0)) := by rw [← hW3]; exact hp_new _ _ (by simp)
    have hs3 := blk_lt b2
    have hK0 : RmI9 w (fun k => X k ∨ w2.heap.size ≤ k ∧ k < W3.heap.size) p jb tb m w2.heap.size (w2.heap.size + 1) freshI freshM W3 := ⟨HT.out.take hB3, b1, b2, fresh_st, rfl⟩
    have hw := HT.out.j.dev.below.size
    have hj2 := blk_lt HT.out.j.obj
    have ht2 := blk_lt HT.out.t.obj
    have hm2 := HT.out.t.mlt
    obtain ⟨bg, hbg⟩ : ∃ bg, w2.heap.size = bg := ⟨_, rfl⟩
    rw [hbg] at hK0 hs3 hw hj2 ht2 hm2
    simp only [hbg]
    obtain ⟨bx, hbx⟩ : ∃ bx, bg + 1 = bx := ⟨_, rfl⟩
    rw [hbx] at hK0 hs3
    simp only [hbx]
    have hRW : RmX9 w (fun k => X k ∨ bg ≤ k ∧ k < W3.heap.size) jb tb m bg bx := ⟨.inr ⟨by omega, by omega⟩, .inr ⟨by omega, by omega⟩, by omega, by omega, by omega, by omega, by omega⟩
    have HRX := Lib.hid hRW
    have HK0 := Lib.hid hK0
    clear hW3 hB3 b1 b2 hs3 hK0 hw hj2 ht2 hm2 hbg hbx hRW HT hX hjb htb hm
    generalize (fun k => X k ∨ bg ≤ k ∧ k < W3.heap.size) = X at *
    go_loopw [11, 12, 13] (fun vi _ _ wr => ∃ (k : Nat) (x : Ino) (M : Wl), k ≤ ls.length ∧ vi = .int .i64 k ∧ RmI9 w X p jb tb m bg bx x M wr) (fun vi _ _ _ => ls.length - (intOf vi).toNat)
    case atStart => exact ⟨0, _, _, Nat.zero_le _, rfl, HK0.out⟩
    case round =>
      obtain ⟨k, x, M, hk, rfl, hR⟩ := hrel
      by_cases hlt : k < ls.length
      · obtain ⟨b, off, rfl, hb, hc⟩ := HC.out (by omega)
        obtain ⟨c0, c1, c2, c3⟩ := hc k hlt
        obtain ⟨-, -, hbwf, -⟩ := HW.out (ls.getD k st90) (by rw [List.getD_eq_getElem?_getD, List.getElem?_eq_getElem hlt]; exact List.getElem_mem hlt)
        generalize ls.getD k st90 = sp at *
        obtain ⟨kk, hkk⟩ : ∃ kk : Nat, IntKind.u64.wrap sp.page % 36 = (kk : Int) := ⟨(IntKind.u64.wrap sp.page % 36).toNat, by omega⟩
        have hkk36 : kk < 36 := by omega
        have hkt : (IntKind.u64.wrap sp.page).tmod 36 = (kk : Int) := by rw [Int.tmod_eq_emod_of_nonneg (by rw [IntKind.wrap_u64]; omega)]; exact hkk
        have hw2 : IntKind.i64.wrap (kk : Int) = (kk : Int) := i64_sm (by omega) (by omega)
        have hw3 : wrap64 (kk : Int) = (kk : Int) := by unfold wrap64; omega
        obtain ⟨v, hv⟩ : ∃ v : Int, sp.b % 16 = v := ⟨_, rfl⟩
        have hvt : sp.b.tmod 16 = v := by rw [Int.tmod_eq_emod_of_nonneg (wfu16 hbwf).1]; exact hv
        have hv0 : 0 ≤ v := by omega
        have hv16 : v < 16 := by omega
        have hset := fun (W2 : World) (X2 : Nat → Prop) (h2 : TJ w X2 p jb 63 0 1 40 0 0 (newS 63) tb m M false W2) => bset_any h2 geoN_small hR.st (by rw [hR.n]; rfl) hv0 (by omega) (by omega) kk hkk36
        have hS : ∀ W' : World, W'.heap[bg]? = some (.cells gvc 56 (0, 0)) → W'.heap[bx]? = some (.cells (ic x) 61 (0, 0)) → Below w.heap.size w W' → S9 bg bx x b (off + k * 4) sp W' := fun W' h1 h2 h3 => s9_of h1 h2 ((h3.cell (p := ⟨b, off + k * 4 + 1, none⟩) hb).trans c1) ((h3.cell (p := ⟨b, off + k * 4 + 2, none⟩) hb).trans c2)
        unfold S9 at hS
        obtain ⟨y, hy⟩ : ∃ y, stX x kk v = y := ⟨_, rfl⟩
        rw [hy] at hset
        unfold gv ic at hset
        have hst : St y (stM x M 62 kk v) 62 16 ∧ y.n = 16 := by rw [← hy]; exact ⟨hR.st.set kk hv0 (by omega) (by omega), by rw [stX_n]; exact hR.n⟩
        have HST := Lib.hid hst
        have HSET := Lib.hid hset
        have HS := Lib.hid hS
        have HR := Lib.hid hR
        have HV := Lib.hid hv16
        clear hset hR hc c0 c1 c2 c3 hbwf hS hst hy hkk hv
        go_wp2_with fail
        apply region_mid (R := fun nb W' => W'.heap[nb]? = some (.cells (ic y) 61 (0, 0)) ∧ TJ w X p jb 63 0 1 40 0 0 (newS 63) tb m (stM x M 62 kk v) false W' ∧ W'.heap[bg]? = some (.cells gvc 56 (0, 0)) ∧ W'.heap[bx]? = some (.cells (ic x) 61 (0, 0)) ∧ nb ≠ bx)
        case h =>
          refine wp_region_held_drew (S := fun Wq => (Wq.cell? ⟨bg, 0, none⟩ = some (.int .i64 8) ∧ Wq.cell? ⟨bg, 1, none⟩ = some (.int .i64 16) ∧ Wq.cell? ⟨bg, 2, none⟩ = some (.int .i64 40)) ∧ (Wq.cell? ⟨bx, 0, none⟩ = some (.int .u8 x.k) ∧ Wq.cell? ⟨bx, 1, none⟩ = some (.int .u16 x.l) ∧ Wq.cell? ⟨bx, 2, none⟩ = some (.int .u32 x.s) ∧ Wq.cell? ⟨bx, 3, none⟩ = some (.int .u16 x.d0) ∧ Wq.cell? ⟨bx, 4, none⟩ = some (.int .u16 x.d1) ∧ Wq.cell? ⟨bx, 5, none⟩ = some (.int .u16 x.d2) ∧ Wq.cell? ⟨bx, 6, none⟩ = some (.int .u16 x.d3) ∧ Wq.cell? ⟨bx, 7, none⟩ = some (.int .u16 x.n)) ∧ Wq.cell? ⟨b, off + k * 4 + 1, none⟩ = some (.int .i64 sp.page) ∧ Wq.cell? ⟨b, off + k * 4 + 2, none⟩ = some (.int .u16 sp.b)) (by kernel_rfl) (by exact HS.out _ HR.out.ig HR.out.ix HR.out.tj.j.dev.below.drew) (fun hHeld => ?_)
          refine wpAnyH_now (i := 0) (v := ?v200) rfl (by kernel_rfl) (by kernel_rfl) (by kernel_rfl) (fun _ _ _ h => h) (by rfl) ?h200 (by assumption) ?_
          case h200 => ((intro w hSw; (try dsimp only at hSw); go_simp); try with_reducible rfl)
          (try simp only [Act.put, List.setIfInBounds_toArray, List.set_cons_succ, List.set_cons_zero])
          refine wpAnyH_now (i := 1) (v := ?v201) rfl (by kernel_rfl) (by kernel_rfl) (by kernel_rfl) (fun _ _ _ h => h) (by rfl) ?h201 (by assumption) ?_
          case h201 => ((intro w hSw; (try dsimp only at hSw); go_simp); try with_reducible rfl)
          (try simp only [Act.put, List.setIfInBounds_toArray, List.set_cons_succ, List.set_cons_zero])
          refine wpAnyH_now (i := 2) (v := ?v202) rfl (by kernel_rfl) (by kernel_rfl) (by kernel_rfl) (fun _ _ _ h => h) (by rfl) ?h202 (by assumption) ?_
          case h202 => ((intro w hSw; (try dsimp only at hSw); go_simp); try with_reducible rfl)
          (try simp only [Act.put, List.setIfInBounds_toArray, List.set_cons_succ, List.set_cons_zero])
          refine wpAnyH_now (i := 3) (v := ?v203) rfl (by kernel_rfl) (by kernel_rfl) (by kernel_rfl) (fun _ _ _ h => h) (by rfl) ?h203 (by assumption) ?_
          case h203 => ((intro w hSw; (try dsimp only at hSw); go_simp); try with_reducible rfl)
          (try simp only [Act.put, List.setIfInBounds_toArray, List.set_cons_succ, List.set_cons_zero])
          refine wpAnyH_now (i := 4) (v := ?v204) rfl (by kernel_rfl) (by kernel_rfl) (by kernel_rfl) (fun _ _ _ h => h) (by rfl) ?h204 (by assumption) ?_
          case h204 => ((intro w hSw; (try dsimp only at hSw); go_simp); try with_reducible rfl)
          (try simp only [Act.put, List.setIfInBounds_toArray, List.set_cons_succ, List.set_cons_zero])
          refine wpAnyH_now (i := 5) (v := ?v205) rfl (by kernel_rfl) (by kernel_rfl) (by kernel_rfl) (fun _ _ _ h => h) (by rfl) ?h205 (by assumption) ?_
          case h205 => ((intro w hSw; (try dsimp only at hSw); go_simp); try with_reducible rfl)
          (try simp only [Act.put, List.setIfInBounds_toArray, List.set_cons_succ, List.set_cons_zero])
          refine wpAnyH_now (i := 6) (v := ?v206) rfl (by kernel_rfl) (by kernel_rfl) (by kernel_rfl) (fun _ _ _ h => h) (by rfl) ?h206 (by assumption) ?_
          case h206 => ((intro w hSw; (try dsimp only at hSw); go_simp); try with_reducible rfl)
          (try simp only [Act.put, List.setIfInBounds_toArray, List.set_cons_succ, List.set_cons_zero])
          refine wpAnyH_now (i := 7) (v := ?v207) rfl (by kernel_rfl) (by kernel_rfl) (by kernel_rfl) (fun _ _ _ h => h) (by rfl) ?h207 (by assumption) ?_
          case h207 => ((intro w hSw; (try dsimp only at hSw); go_simp); try with_reducible rfl)
          (try simp only [Act.put, List.setIfInBounds_toArray, List.set_cons_succ, List.set_cons_zero])
          refine wpAnyH_now (i := 8) (v := ?v208) rfl (by kernel_rfl) (by kernel_rfl) (by kernel_rfl) (fun _ _ _ h => h) (by rfl) ?h208 (by assumption) ?_
          case h208 => ((intro w hSw; (try dsimp only at hSw); go_simp); try with_reducible rfl)
          (try simp only [Act.put, List.setIfInBounds_toArray, List.set_cons_succ, List.set_cons_zero])
          refine wpAnyH_now (i := 9) (v := ?v209) rfl (by kernel_rfl) (by kernel_rfl) (by kernel_rfl) (fun _ _ _ h => h) (by rfl) ?h209 (by assumption) ?_
          case h209 => ((intro w hSw; (try dsimp only at hSw); go_simp); try with_reducible rfl)
          (try simp only [Act.put, List.setIfInBounds_toArray, List.set_cons_succ, List.set_cons_zero])
          refine wpAnyH_now (i := 10) (v := ?v210) rfl (by kernel_rfl) (by kernel_rfl) (by kernel_rfl) (fun _ _ _ h => h) (by rfl) ?h210 (by assumption) ?_
          case h210 => ((intro w hSw; (try dsimp only at hSw); go_simp); try with_reducible rfl)
          (try simp only [Act.put, List.setIfInBounds_toArray, List.set_cons_succ, List.set_cons_zero])
          refine wpAnyH_now (i := 11) (v := ?v211) rfl (by kernel_rfl) (by kernel_rfl) (by kernel_rfl) (fun _ _ _ h => h) (by rfl) ?h211 (by assumption) ?_
          case h211 => ((intro w hSw; (try dsimp only at hSw); go_simp); try with_reducible rfl)
          (try simp only [Act.put, List.setIfInBounds_toArray, List.set_cons_succ, List.set_cons_zero])
          refine wpAnyH_now (i := 12) (v := ?v212) rfl (by kernel_rfl) (by kernel_rfl) (by kernel_rfl) (fun _ _ _ h => h) (by rfl) ?h212 (by assumption) ?_
          case h212 => ((intro w hSw; (try dsimp only at hSw); go_simp); try with_reducible rfl)
          (try simp only [Act.put, List.setIfInBounds_toArray, List.set_cons_succ, List.set_cons_zero])
          refine wpAnyH_now (i := 13) (v := ?v213) rfl (by kernel_rfl) (by kernel_rfl) (by kernel_rfl) (fun _ _ _ h => h) (by rfl) ?h213 (by assumption) ?_
          case h213 => ((intro w hSw; (try dsimp only at hSw); go_simp); try with_reducible rfl)
          (try simp only [Act.put, List.setIfInBounds_toArray, List.set_cons_succ, List.set_cons_zero])
          refine wpAnyH_now (i := 14) (v := ?v214) rfl (by kernel_rfl) (by kernel_rfl) (by kernel_rfl) (fun _ _ _ h => h) (by rfl) ?h214 (by assumption) ?_
          case h214 => ((intro w hSw; (try dsimp only at hSw); go_simp); try with_reducible rfl)
          (try simp only [Act.put, List.setIfInBounds_toArray, List.set_cons_succ, List.set_cons_zero])
          refine wpAnyH_now (i := 15) (v := ?v215) rfl (by kernel_rfl) (by kernel_rfl) (by kernel_rfl) (fun _ _ _ h => h) (by rfl) ?h215 (by assumption) ?_
          case h215 => ((intro w hSw; (try dsimp only at hSw); go_simp); try with_reducible rfl)
          (try simp only [Act.put, List.setIfInBounds_toArray, List.set_cons_succ, List.set_cons_zero])
          refine wpAnyH_now (i := 16) (v := ?v216) rfl (by kernel_rfl) (by kernel_rfl) (by kernel_rfl) (fun _ _ _ h => h) (by rfl) ?h216 (by assumption) ?_
          case h216 => ((intro w hSw; (try dsimp only at hSw); go_simp); try with_reducible rfl)
          (try simp only [Act.put, List.setIfInBounds_toArray, List.set_cons_succ, List.set_cons_zero])
          refine wpAnyH_two (i := 17) (j := 21) (by kernel_rfl) rfl rfl (by rfl) (by rfl) (fun K hK => ?_) (fun K hK => ?_)
          · go_simp
            refine (HSET.out _ _ (HR.out.tj.of (Below.refl _ _).drew)).mono ?_
            rintro e w4 ⟨rfl, hT4, hK4⟩
            have hg4 := (hK4 bg (.inr ⟨HRX.out.xg, HRX.out.gj.2.2⟩)).trans HR.out.ig
            have hx4 := (hK4 bx (.inr ⟨HRX.out.xx, HRX.out.xj.2.2⟩)).trans HR.out.ix
            refine hK.out _ _ (by exact HS.out _ hg4 hx4 hT4.j.dev.below) (fun hHeld => ?_)
            clear hK K
            (try simp only [Act.put, List.setIfInBounds_toArray, List.set_cons_succ, List.set_cons_zero])
            refine wpAnyH_now (i := 18) (v := ?v217) rfl (by kernel_rfl) (by kernel_rfl) (by kernel_rfl) (fun _ _ _ h => h) (by rfl) ?h217 (by assumption) ?_
            case h217 => ((intro w hSw; (try dsimp only at hSw); go_simp); try with_reducible rfl)
            (try simp only [Act.put, List.setIfInBounds_toArray, List.set_cons_succ, List.set_cons_zero])
            refine wpAnyH_now (i := 19) (v := ?v218) rfl (by kernel_rfl) (by kernel_rfl) (by kernel_rfl) (fun _ _ _ h => h) (by rfl) ?h218 (by assumption) ?_
            case h218 => ((intro w hSw; (try dsimp only at hSw); go_simp); try with_reducible rfl)
            (try simp only [Act.put, List.setIfInBounds_toArray, List.set_cons_succ, List.set_cons_zero])
            refine wpAnyH_now (i := 20) (v := ?v219) rfl (by kernel_rfl) (by kernel_rfl) (by kernel_rfl) (fun _ _ _ h => h) (by rfl) ?h219 (by assumption) ?_
            case h219 => ((intro w hSw; (try dsimp only at hSw); go_simp); try with_reducible rfl)
            (try simp only [Act.put, List.setIfInBounds_toArray, List.set_cons_succ, List.set_cons_zero])
            refine wpAnyH_only (i := 21) (by kernel_rfl) rfl (by rfl) (fun K hK => ?_)
            go_simp
            refine hK.out _ _ (by exact HS.out _ (blk_old hg4 _) (blk_old hx4 _) (bal hT4.j.dev.below _)) (fun hHeld => ?_)
            clear hK K
            (try simp only [Act.put, List.setIfInBounds_toArray, List.set_cons_succ, List.set_cons_zero])
            have nb := hp_new w4 (.cells #[.int .u8 0, .int .u16 0, .int .u32 0, .int .u16 0, .int .u16 0, .int .u16 0, .int .u16 0, .int .u16 0] 61) rfl
            have n0 := cl_of nb 0; have n1 := cl_of nb 1; have n2 := cl_of nb 2; have n3 := cl_of nb 3; have n4 := cl_of nb 4; have n5 := cl_of nb 5; have n6 := cl_of nb 6; have n7 := cl_of nb 7; have nz := fz_of nb
            refine wpAnyH_only (i := 22) (by kernel_rfl) rfl (by rfl) (fun K hK => ?_)
            go_simp
            refine hK.out _ _ (by exact HS.out _ (blk_old hg4 _) (blk_old hx4 _) (bal hT4.j.dev.below _)) (fun hHeld => ?_)
            clear hK K
            (try simp only [Act.put, List.setIfInBounds_toArray, List.set_cons_succ, List.set_cons_zero])
            refine wpAnyH_now (i := 23) (v := ?v220) rfl (by kernel_rfl) (by kernel_rfl) (by kernel_rfl) (fun _ _ _ h => h) (by rfl) ?h220 (by assumption) ?_
            case h220 => ((intro w hSw; (try dsimp only at hSw); go_simp); try with_reducible rfl)
            (try simp only [Act.put, List.setIfInBounds_toArray, List.set_cons_succ, List.set_cons_zero])
            refine wpAnyH_done (by kernel_rfl) ?_ _
            refine NoPanic.normal ?_
            have hxl := blk_lt hx4
            obtain ⟨nbv, hnb⟩ : ∃ k, w4.heap.size = k := ⟨_, rfl⟩
            rw [hnb]
            exact ⟨rfl, nbv, rfl, by exact ⟨hp_new _ _ hnb.symm, hT4.of (bnew _ _), blk_old hg4 _, blk_old hx4 _, by omega⟩⟩
          · go_simp
            refine hK.out _ _ (by exact HS.out _ (blk_old HR.out.ig _) (blk_old HR.out.ix _) (bal HR.out.tj.j.dev.below _).drew) (fun hHeld => ?_)
            clear hK K
            (try simp only [Act.put, List.setIfInBounds_toArray, List.set_cons_succ, List.set_cons_zero])
            have nb0 := hp_newd wr (.cells #[.int .u8 0, .int .u16 0, .int .u32 0, .int .u16 0, .int .u16 0, .int .u16 0, .int .u16 0, .int .u16 0] 61)
            refine wpAnyH_only (i := 17) (by kernel_rfl) rfl (by rfl) (fun K hK => ?_)
            have hT0 := (HR.out.tj.take (bnew wr (.cells #[.int .u8 0, .int .u16 0, .int .u32 0, .int .u16 0, .int .u16 0, .int .u16 0, .int .u16 0, .int .u16 0] 61))).of (Below.refl _ _).drew
            go_simp
            refine (HSET.out _ _ hT0).mono ?_
            rintro e w4 ⟨rfl, hT4, hK4⟩
            have hg4 := (hK4 bg (.inr ⟨.inl HRX.out.xg, HRX.out.gj.2.2⟩)).trans (blk_old HR.out.ig _)
            have hx4 := (hK4 bx (.inr ⟨.inl HRX.out.xx, HRX.out.xj.2.2⟩)).trans (blk_old HR.out.ix _)
            refine hK.out _ _ (by exact HS.out _ hg4 hx4 hT4.j.dev.below) (fun hHeld => ?_)
            clear hK K
            (try simp only [Act.put, List.setIfInBounds_toArray, List.set_cons_succ, List.set_cons_zero])
            have hmx := HR.out.tj.t.mlt
            have nb := (hK4 wr.heap.size (.inr ⟨.inr ⟨Nat.le_refl _, by simp⟩, Nat.ne_of_gt hmx⟩)).trans nb0
            have n0 := cl_of nb 0; have n1 := cl_of nb 1; have n2 := cl_of nb 2; have n3 := cl_of nb 3; have n4 := cl_of nb 4; have n5 := cl_of nb 5; have n6 := cl_of nb 6; have n7 := cl_of nb 7; have nz := fz_of nb
            refine wpAnyH_now (i := 18) (v := ?v221) rfl (by kernel_rfl) (by kernel_rfl) (by kernel_rfl) (fun _ _ _ h => h) (by rfl) ?h221 (by assumption) ?_
            case h221 => ((intro w hSw; (try dsimp only at hSw); go_simp); try with_reducible rfl)
            (try simp only [Act.put, List.setIfInBounds_toArray, List.set_cons_succ, List.set_cons_zero])
            refine wpAnyH_now (i := 19) (v := ?v222) rfl (by kernel_rfl) (by kernel_rfl) (by kernel_rfl) (fun _ _ _ h => h) (by rfl) ?h222 (by assumption) ?_
            case h222 => ((intro w hSw; (try dsimp only at hSw); go_simp); try with_reducible rfl)
            (try simp only [Act.put, List.setIfInBounds_toArray, List.set_cons_succ, List.set_cons_zero])
            refine wpAnyH_now (i := 20) (v := ?v223) rfl (by kernel_rfl) (by kernel_rfl) (by kernel_rfl) (fun _ _ _ h => h) (by rfl) ?h223 (by assumption) ?_
            case h223 => ((intro w hSw; (try dsimp only at hSw); go_simp); try with_reducible rfl)
            (try simp only [Act.put, List.setIfInBounds_toArray, List.set_cons_succ, List.set_cons_zero])
            have hxl := blk_lt HR.out.ix
            have hgl := blk_lt HR.out.ig
            refine wpAnyH_only (i := 22) (by kernel_rfl) rfl (by rfl) (fun K hK => ?_)
            go_simp
            refine hK.out _ _ (by exact HS.out _ ((sets_other (Nat.ne_of_lt hgl)).trans hg4) ((sets_other (Nat.ne_of_lt hxl)).trans hx4) (below_sets hT4.j.dev.below HR.out.tj.j.dev.below.size)) (fun hHeld => ?_)
            clear hK K
            (try simp only [Act.put, List.setIfInBounds_toArray, List.set_cons_succ, List.set_cons_zero])
            refine wpAnyH_now (i := 23) (v := ?v224) rfl (by kernel_rfl) (by kernel_rfl) (by kernel_rfl) (fun _ _ _ h => h) (by rfl) ?h224 (by assumption) ?_
            case h224 => ((intro w hSw; (try dsimp only at hSw); go_simp); try with_reducible rfl)
            (try simp only [Act.put, List.setIfInBounds_toArray, List.set_cons_succ, List.set_cons_zero])
            refine wpAnyH_done (by kernel_rfl) ?_ _
            refine NoPanic.normal ?_
            have hwl := HR.out.tj.j.dev.below.size
            have hjl := blk_lt HR.out.tj.j.obj
            have htl := blk_lt HR.out.tj.t.obj
            obtain ⟨nbv, hnb⟩ : ∃ k, wr.heap.size = k := ⟨_, rfl⟩
            rw [hnb]
            exact ⟨rfl, nbv, rfl, by (rw [hnb] at nb hmx hxl hgl hwl hjl htl; exact ⟨put8_here (x := Ino.zero) nb y, (hT4.put8 (b := nbv) (.inr ⟨Nat.le_of_eq hnb, by (rw [← hnb]; simp)⟩) hwl (by omega) (by omega) (by omega) y).less (fun _ h => .inl h) HR.out.tj.j.own HR.out.tj.xt HR.out.tj.xm, (sets_other (Nat.ne_of_lt hgl)).trans hg4, (sets_other (Nat.ne_of_lt hxl)).trans hx4, by omega⟩)⟩
        case hc =>
          rintro nb w6 ⟨hn6, hT6, hg6, hx6, hne⟩
          have hI6 : RmI9 w X p jb tb m bg bx y (stM x M 62 kk v) (put8 w6 bx y) := ⟨hT6.put8 HRX.out.xx HRX.out.gx HRX.out.xj.1 HRX.out.xj.2.1 HRX.out.xj.2.2 _, (put8_other _ HRX.out.ne _).trans hg6, put8_here hx6 _, HST.out.1, HST.out.2⟩
          unfold put8 at hI6
          have HI6 := Lib.hid hI6
          unfold ic at hn6 hx6
          have n0 := cl_of hn6 0
          have n1 := cl_of hn6 1
          have n2 := cl_of hn6 2
          have n3 := cl_of hn6 3
          have n4 := cl_of hn6 4
          have n5 := cl_of hn6 5
          have n6 := cl_of hn6 6
          have n7 := cl_of hn6 7
          have s0 := cl_of hx6 0
          have s1 := cl_of hx6 1
          have s2 := cl_of hx6 2
          have s3 := cl_of hx6 3
          have s4 := cl_of hx6 4
          have s5 := cl_of hx6 5
          have s6 := cl_of hx6 6
          have s7 := cl_of hx6 7
          have sz := fz_of hx6
          clear hn6 hT6 hg6 hx6 hI6 HSET HS
          generalize stM x M 62 kk v = M2 at *
          go_wp2_with fail
          have hl80 := HL.out
          have hwk : wrap64 ((k : Int) + 1) = ((k + 1 : Nat) : Int) := by unfold wrap64; omega
          clear hw3 hw2 hkt hvt
          go_roundw
          case rel => exact ⟨k + 1, y, M2, by omega, by rw [hwk], HI6.out⟩
          case measure => rw [hwk]; simp [intOf]; omega
      · obtain rfl : k = ls.length := by omega
        clear HC HW HL hk hlt HK0
        have hcn := cut_none x hR.st.sz 62
        have hc36 := bcut_any hR.tj geoN_small ⟨mays_small, by decide, hR.st.n.2, hR.st.d⟩ hR.st.wf hR.st.sz (fun _ => by rw [hR.n]; rfl) 36 (by decide) (.inl hR.st.here)
        unfold CutPost at hc36
        rw [hcn.1, hcn.2.1, hcn.2.2, show ((36 : Nat) : Int) = 36 from rfl] at hc36
        unfold gv ic at hc36
        obtain ⟨q, hq⟩ : ∃ q : Nat, pa % 37 = (q : Int) := ⟨(pa % 37).toNat, by omega⟩
        have hq36 : q ≤ 36 := by omega
        have hpt : pa.tmod 37 = (q : Int) := by rw [Int.tmod_eq_emod_of_nonneg hpa.1]; exact hq
        have hpw : wrap64 pa = pa := by unfold wrap64; omega
        have hmw : wrap64 mo = mo := by unfold wrap64; omega
        have hpi : IntKind.i64.wrap pa = pa := i64_sm (by omega) (by omega)
        have hmi : IntKind.i64.wrap mo = mo := i64_sm (by omega) (by omega)
        obtain ⟨q2, hq2⟩ : ∃ q2 : Nat, (q2 : Int) = min ((q : Int) + mo) 36 := ⟨(min ((q : Int) + mo) 36).toNat, by omega⟩
        have hq12 : q ≤ q2 := by omega
        have hq236 : q2 ≤ 36 := by omega
        have hsw : wrap64 ((q : Int) + mo) = (q : Int) + mo := by unfold wrap64; omega
        have hsi : IntKind.i64.wrap ((q : Int) + mo) = (q : Int) + mo := i64_sm (by omega) (by omega)
        have hm1 : (if (q : Int) + mo < 36 then (q : Int) + mo else 36) = (q2 : Int) := by rw [hq2]; split <;> omega
        have hm2 : (if (36 : Int) < (q : Int) + mo then (36 : Int) else (q : Int) + mo) = (q2 : Int) := by rw [hq2]; split <;> omega
        have hm3 : min ((q : Int) + mo) 36 = (q2 : Int) := hq2.symm
        have hm4 : (if (q : Int) + mo ≤ 36 then (q : Int) + mo else 36) = (q2 : Int) := by rw [hq2]; split <;> omega
        have HQ := Lib.hid (show q ≤ 36 ∧ q2 ≤ 36 ∧ q ≤ q2 from ⟨hq36, hq236, hq12⟩)
        have H36 := Lib.hid hc36
        have HR := Lib.hid hR
        have hgi := hR.ig
        have hxi := hR.ix
        unfold gvc at hgi
        unfold ic at hxi
        have g0 := cl_of hgi 0
        have g1 := cl_of hgi 1
        have g2 := cl_of hgi 2
        have x0 := cl_of hxi 0
        have x1 := cl_of hxi 1
        have x2 := cl_of hxi 2
        have x3 := cl_of hxi 3
        have x4 := cl_of hxi 4
        have x5 := cl_of hxi 5
        have x6 := cl_of hxi 6
        have x7 := cl_of hxi 7
        clear hc36 hcn hR hgi hxi hq hq2 hq12 hpa hmo
        go_wp2_with fail
        refine H36.out.mono ?_
        rintro e w4 ⟨v1, rfl, hrow1, hT4, hK4⟩
        obtain ⟨a1, c1, rfl⟩ := row_nil hrow1
        have hg4 := (hK4 bg (.inr ⟨HRX.out.xg, HRX.out.gj.2.2⟩)).trans HR.out.ig
        have hx4 := (hK4 bx (.inr ⟨HRX.out.xx, HRX.out.xj.2.2⟩)).trans HR.out.ix
        have hT5 := hT4.take (bnew w4 (.cells #[.int .u8 x.k, .int .u16 x.l, .int .u32 x.s, .int .u16 x.d0, .int .u16 x.d1, .int .u16 x.d2, .int .u16 x.d3, .int .u16 x.n] 61))
        have hB5 := hp_new w4 (.cells #[.int .u8 x.k, .int .u16 x.l, .int .u32 x.s, .int .u16 x.d0, .int .u16 x.d1, .int .u16 x.d2, .int .u16 x.d3, .int .u16 x.n] 61) rfl
        have hy0 := cut_ok HR.out.st HR.out.n q
        have hag := cut_again x HR.out.st.sz 62 HQ.out.2.2
        have hcc := x.cut_cut HQ.out.2.2
        have hc5 := bcut_any hT5 geoN_small ⟨mays_small, by decide, HR.out.st.n.2, HR.out.st.d⟩ HR.out.st.wf HR.out.st.sz (fun _ => by rw [HR.out.n]; rfl) q HQ.out.1 (.inl HR.out.st.here)
        unfold CutPost at hc5
        obtain ⟨y, hy⟩ : ∃ y, x.cut q = y := ⟨_, rfl⟩
        obtain ⟨M2, hM2⟩ : ∃ M2, cutM x M 62 q = M2 := ⟨_, rfl⟩
        rw [hy] at hcc
        rw [hy, hM2] at hc5 hy0 hag
        unfold gv ic at hc5
        have HC5 := Lib.hid hc5
        have HT4 := Lib.hid hT4
        have HG4 := Lib.hid hg4
        have HX4 := Lib.hid hx4
        have HB5 := Lib.hid hB5
        have HY := Lib.hid (And.intro hy0 (And.intro hag hcc))
        have hgl := blk_lt hg4
        have hxl := blk_lt hx4
        unfold gvc at hg4
        unfold ic at hx4
        have g0 := cl_of hg4 0
        have g1 := cl_of hg4 1
        have g2 := cl_of hg4 2
        have x0 := cl_of hx4 0
        have x1 := cl_of hx4 1
        have x2 := cl_of hx4 2
        have x3 := cl_of hx4 3
        have x4 := cl_of hx4 4
        have x5 := cl_of hx4 5
        have x6 := cl_of hx4 6
        have x7 := cl_of hx4 7
        clear H36 hrow1 hT4 hK4 hg4 hx4 hT5 hB5 hy0 hag hcc hc5 hy hM2
        go_wp2_with fail
        refine HC5.out.mono ?_
        rintro e w6 ⟨v2, rfl, hrow2, hT6, hK6⟩
        obtain ⟨a2, l2, c2, rfl⟩ := row_slice hrow2
        have hm4 := HT4.out.t.mlt
        have hg6 := (hK6 bg (.inr ⟨.inl HRX.out.xg, HRX.out.gj.2.2⟩)).trans (blk_old HG4.out _)
        have hx6 := (hK6 bx (.inr ⟨.inl HRX.out.xx, HRX.out.xj.2.2⟩)).trans (blk_old HX4.out _)
        have hb6 := (hK6 w4.heap.size (.inr ⟨.inr ⟨Nat.le_refl _, by simp⟩, Nat.ne_of_gt hm4⟩)).trans HB5.out
        have hT7 := hT6.take (bnew w6 (.cells #[.int .u8 y.k, .int .u16 y.l, .int .u32 y.s, .int .u16 y.d0, .int .u16 y.d1, .int .u16 y.d2, .int .u16 y.d3, .int .u16 y.n] 61))
        have hB7 := hp_new w6 (.cells #[.int .u8 y.k, .int .u16 y.l, .int .u32 y.s, .int .u16 y.d0, .int .u16 y.d1, .int .u16 y.d2, .int .u16 y.d3, .int .u16 y.n] 61) rfl
        have hc7 := bcut_any hT7 geoN_small ⟨mays_small, by decide, HY.out.1.2.2.1, HY.out.1.2.1⟩ HY.out.1.1 HY.out.1.2.2.2.2.1 (fun hn => by rw [HY.out.1.2.2.2.1 hn]; rfl) q2 HQ.out.2.1 (.inl HY.out.1.2.2.2.2.2)
        unfold CutPost at hc7
        rw [HY.out.2.1, HY.out.2.2] at hc7
        obtain ⟨M3, hM3⟩ : ∃ M3, cutM y M2 62 q2 = M3 := ⟨_, rfl⟩
        rw [hM3] at hc7
        unfold gv ic at hc7
        have HC7 := Lib.hid hc7
        have HT6 := Lib.hid hT6
        have HG6 := Lib.hid hg6
        have HX6 := Lib.hid hx6
        have HB6 := Lib.hid hb6
        have HB7 := Lib.hid hB7
        have hgl := blk_lt hg6
        have hxl := blk_lt hx6
        have hbl := blk_lt hb6
        unfold gvc at hg6
        have g0 := cl_of hg6 0
        have g1 := cl_of hg6 1
        have g2 := cl_of hg6 2
        have y0 := cl_of hB7 0
        have y1 := cl_of hB7 1
        have y2 := cl_of hB7 2
        have y3 := cl_of hB7 3
        have y4 := cl_of hB7 4
        have y5 := cl_of hB7 5
        have y6 := cl_of hB7 6
        have y7 := cl_of hB7 7
        clear HC5 hrow2 hT6 hK6 hg6 hx6 hb6 hT7 hB7 hc7 hM3
        go_wp2_with fail
        refine HC7.out.mono ?_
        rintro e w8 ⟨v3, rfl, hrow3, hT8, hK8⟩
        obtain ⟨a3, c3, rfl⟩ := row_nil hrow3
        have hm6 := HT6.out.t.mlt
        have hm4' := hm4
        have hx8 := (hK8 bx (.inr ⟨.inl (.inl HRX.out.xx), HRX.out.xj.2.2⟩)).trans (blk_old HX6.out _)
        have hb8 := (hK8 w4.heap.size (.inr ⟨.inl (.inr ⟨Nat.le_refl _, by simp⟩), Nat.ne_of_gt hm4⟩)).trans (blk_old HB6.out _)
        have hd8 := (hK8 w6.heap.size (.inr ⟨.inr ⟨Nat.le_refl _, by simp⟩, Nat.ne_of_gt hm6⟩)).trans HB7.out
        have hB9 := hp_new w8 (.cells #[.int .u8 y.k, .int .u16 y.l, .int .u32 y.s, .int .u16 y.d0, .int .u16 y.d1, .int .u16 y.d2, .int .u16 y.d3, .int .u16 y.n] 61) rfl
        have hxl := blk_lt hx8
        have hbl := blk_lt hb8
        have hdl := blk_lt hd8
        have HBW := Lib.hid (bal hT8.j.dev.below (.cells #[.int .u8 y.k, .int .u16 y.l, .int .u32 y.s, .int .u16 y.d0, .int .u16 y.d1, .int .u16 y.d2, .int .u16 y.d3, .int .u16 y.n] 61))
        unfold ic at hx8
        have x0 := cl_of hx8 0
        have x1 := cl_of hx8 1
        have x2 := cl_of hx8 2
        have x3 := cl_of hx8 3
        have x4 := cl_of hx8 4
        have x5 := cl_of hx8 5
        have x6 := cl_of hx8 6
        have x7 := cl_of hx8 7
        have z0 := cl_of hb8 0
        have z1 := cl_of hb8 1
        have z2 := cl_of hb8 2
        have z3 := cl_of hb8 3
        have z4 := cl_of hb8 4
        have z5 := cl_of hb8 5
        have z6 := cl_of hb8 6
        have z7 := cl_of hb8 7
        have y0 := cl_of hd8 0
        have y1 := cl_of hd8 1
        have y2 := cl_of hd8 2
        have y3 := cl_of hd8 3
        have y4 := cl_of hd8 4
        have y5 := cl_of hd8 5
        have y6 := cl_of hd8 6
        have y7 := cl_of hd8 7
        have u0 := cl_of hB9 0
        have u1 := cl_of hB9 1
        have u2 := cl_of hB9 2
        have u3 := cl_of hB9 3
        have u4 := cl_of hB9 4
        have u5 := cl_of hB9 5
        have u6 := cl_of hB9 6
        have u7 := cl_of hB9 7
        have hex := fun W : World => eq_ino x x W
        rw [show ieq x x = true from decide_eq_true rfl] at hex
        have hey := fun W : World => eq_ino y y W
        rw [show ieq y y = true from decide_eq_true rfl] at hey
        clear HC7 hrow3 hT8 hK8 hx8 hb8 hd8 hB9
        go_wp2_with fail
        refine (alive09_any _).mono ?_
        rintro e w9 ⟨rfl, hBz⟩
        have HBZ := Lib.hid (bt HBW.out hBz)
        clear hBz
        go_wp2_with fail
        go_ret
        exact ⟨rfl, HBZ.out⟩
theorem u8_wf {z : Int} (hz : (Lit.int .u8 z).wf = true) : 0 ≤ z ∧ z < 256 := by
  have h : 0 ≤ z ∧ z ≤ 255 := by simpa [Lit.wf, IntKind.min, IntKind.max, IntKind.signed, IntKind.bits] using hz
  omega
theorem twice_go {w : World} (v : Value) (ls : List St9) (pa mo : Int) (hl : Sl9 w v ls) (hp : (Lit.int .u8 pa).wf = true) (hm : (Lit.int .u8 mo).wf = true) : Calls Tryz.prog 7 #[v, .int .u8 pa, .int .u8 mo] w fun e w' => e = .returned (.bool true) ∧ Below w.heap.size w w' := twice_walk v ls hl pa mo (u8_wf hp) (u8_wf hm)
end
end Go.Proofs.YtjjphcnoegaimaaGreat
