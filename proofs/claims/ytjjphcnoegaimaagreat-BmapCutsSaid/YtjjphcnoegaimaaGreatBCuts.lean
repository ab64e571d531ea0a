/- lunettelaw09.BmapCuts: the walk. -/
import Derived.Test.YtjjphcnoegaimaaGreatBTwice
import Derived.Test.YtjjphcnoegaimaaGreatGV
namespace Go.Proofs.YtjjphcnoegaimaaGreat
open Go.RowKit Go.Shelf Go.Maps
set_option maxRecDepth 20000
set_option linter.unusedVariables false
set_option linter.unusedSimpArgs false
section
variable {w W W' : World} {X : Nat → Prop} {p jb tb m bg by' ms : Nat} {M : Wl} {y : Ino} {f : Int → Int} {v0 v1 v2 : Value} {F0 F1 F2 : List Int}
theorem TJ.grown9 {w0 : World} {N B fr n g r : Nat} {s : DS} {dn : Bool} (h : TJ w0 X p jb N B fr n g r s tb m M dn W) {b : Nat} (hb : X b) (hw : w0.heap.size ≤ b) (h1 : b ≠ jb) (h2 : b ≠ tb) (h3 : b ≠ m) (hg : W.grownBy W' (some b)) : TJ w0 X p jb N B fr n g r s tb m M dn W' :=
  ⟨h.j.grown hb hw h1 hg, h.t.keep (hg.block tb (blk_lt h.t.obj) (fun e => h2 (Option.some.inj e).symm)) (hg.block m h.t.mlt (fun e => h3 (Option.some.inj e).symm)), h.xt, h.xm, h.gt, h.gm⟩
theorem cutM_zero (x : Ino) (M : Wl) (bs : Nat) : cutM x M bs 0 = M := by
  unfold cutM
  by_cases h : x.n = 0
  · have hl : toldL x M bs = List.replicate 32 0 := if_pos h
    rw [if_neg (fun h2 => h2.1 h), hl, show (0 - 4 : Nat) = 0 from rfl, List.drop_zero, nz_rep, if_pos rfl]
  · rw [if_pos ⟨h, by decide⟩]
theorem row_val {B : Nat} {e : TypeId} {size : Nat} {v : Value} {xs : List Value} {k : Nat} (h : W.ownsRow B e size v k xs) : ∃ a c, v = .slice a k c := by
  rcases h.2 with ⟨rfl, rfl⟩ | ⟨g, cap, cur, rfl, _⟩
  · exact ⟨_, _, rfl⟩
  · exact ⟨_, _, rfl⟩
/-- A row lies as it lay. -/
theorem row_kb {Y : Nat → Prop} {B : Nat} {v : Value} {k : Nat} {xs : List Value} (h : W.ownsRow B 57 1 v k xs) (hK : Kb w Y W W') (hy : ∀ j, v.ownBlock = some j → Y j) : W'.ownsRow B 57 1 v k xs := ownsRow_blockB h (fun j e => hK j (.inr (hy j e)))
theorem row_nm {B : Nat} {v : Value} {k : Nat} {xs : List Value} (h : W.ownsRow B 57 1 v k xs) {L : List (Int × Value)} {q : IntKind} {z : Nat} (hm : MapS W z q L) : ∀ j, v.ownBlock = some j → j ≠ z := fun j e ej => by
  obtain ⟨es, c, hb, _⟩ := hm
  rcases h.2 with ⟨rfl, _⟩ | ⟨g, cap, cur, rfl, h0, hh, _⟩
  · cases e
  · cases e
    subst ej
    rw [hb] at hh
    cases hh
theorem len17 {n0 n1 n2 : Nat} (h : n0 = n1 + n2) (h1 : n1 ≤ 37) (h2 : n2 ≤ 37) : ((n0 : Int) != (n1 : Int) + (n2 : Int)) = false ∧ wrap64 ((n1 : Int) + (n2 : Int)) = (n1 : Int) + (n2 : Int) ∧ IntKind.i64.wrap ((n1 : Int) + (n2 : Int)) = (n1 : Int) + (n2 : Int) := by
  refine ⟨?_, by unfold wrap64; omega, i64_sm (by omega) (by omega)⟩
  subst h
  simp
theorem ind17 {yn : Int} {q : Nat} (h : yn = if q ≤ 4 then 0 else 16) : ∃ cb : Bool, (yn != 0) = cb ∧ decide ((q : Int) > 4) = cb ∧ decide (4 < q) = cb := by
  by_cases h4 : q ≤ 4
  · rw [if_pos h4] at h
    subst h
    exact ⟨false, rfl, decide_eq_false (by omega), decide_eq_false (by omega)⟩
  · rw [if_neg h4] at h
    subst h
    exact ⟨true, rfl, decide_eq_true (by omega), decide_eq_true (by omega)⟩
theorem meas_lt {q : IntKind} {n k : Nat} (h : k < n) : n - (intOf (.int q ((k + 1 : Nat) : Int))).toNat < n - (intOf (.int q (k : Int))).toNat := by
  simp only [intOf]
  omega
/-- Blocks are counted. -/
structure CntI (w : World) (X : Nat → Prop) (p jb tb m bg by' ms : Nat) (y : Ino) (M : Wl) (v0 v1 v2 : Value) (F0 F1 F2 : List Int) (f : Int → Int) (W : World) : Prop where
  tj : TJ w X p jb 63 0 1 40 0 0 (newS 63) tb m M false W
  ig : W.heap[bg]? = some (.cells gvc 56 (0, 0))
  iy : W.heap[by']? = some (.cells (ic y) 61 (0, 0))
  mp : ∃ L, MapS W ms .u16 L ∧ ∀ b, (mget b L).getD (.int .i64 0) = .int .i64 (f b)
  r0 : W.ownsRow 0 57 1 v0 F0.length (u16s F0)
  r1 : W.ownsRow 0 57 1 v1 F1.length (u16s F1)
  r2 : W.ownsRow 0 57 1 v2 F2.length (u16s F2)
theorem CntI.of (h : CntI w X p jb tb m bg by' ms y M v0 v1 v2 F0 F1 F2 f W) (hB : Below W.heap.size W W') : CntI w X p jb tb m bg by' ms y M v0 v1 v2 F0 F1 F2 f W' := by
  obtain ⟨L, a, b⟩ := h.mp
  exact ⟨h.tj.of hB, bblk hB h.ig, bblk hB h.iy, ⟨L, a.of_block (hB.block ms a.lt), b⟩, row_below h.r0 hB, row_below h.r1 hB, row_below h.r2 hB⟩
theorem zero_int9 (w : World) : (zeroValue 3).run Tryz.prog w = .ok (.int .i64 0) w := by kernel_rfl
theorem CntI.look (h : CntI w X p jb tb m bg by' ms y M v0 v1 v2 F0 F1 F2 f W) (z : Int) : (Instr.lookup 88 (.map (some ms)) (.int .u16 z) false).run Tryz.prog W = .ok (.int .i64 (f z)) W := by
  obtain ⟨L, a, b⟩ := h.mp
  rw [a.mapAt.look (t := 88) Tryz.underlying88 Tryz.underlying57 (zero_int9 W) z, b z]
theorem CntI.put (h : CntI w X p jb tb m bg by' ms y M v0 v1 v2 F0 F1 F2 f W) (hx : X ms) (hg : w.heap.size ≤ ms) (hn : ms ≠ jb ∧ ms ≠ tb ∧ ms ≠ m) {z : Int} (hz : (Lit.int .u16 z).wf = true) (c : Int) :
    ∃ W', (Instr.mapUpdate 88 (.map (some ms)) (.int .u16 z) (.int .i64 c)).run Tryz.prog W = .ok () W' ∧ CntI w X p jb tb m bg by' ms y M v0 v1 v2 F0 F1 F2 (fun b => if b = z then c else f b) W' := by
  obtain ⟨L, a, b⟩ := h.mp
  obtain ⟨W', hr, hS, hgr⟩ := a.put (t := 88) Tryz.underlying88 Tryz.underlying57 z hz (.int .i64 c)
  have hb : ∀ (k : Nat) (cs : Array Value) (t : TypeId) (fz : Nat × Nat), W.heap[k]? = some (.cells cs t fz) → W'.heap[k]? = some (.cells cs t fz) := fun k cs t fz hk => (hgr.block k (blk_lt hk) (fun e => by
    cases e
    obtain ⟨es, c', hb, _⟩ := a
    rw [hb] at hk
    cases hk)).trans hk
  have hrow : ∀ (v : Value) (k : Nat) (xs : List Value), W.ownsRow 0 57 1 v k xs → W'.ownsRow 0 57 1 v k xs := fun v k xs hv => ownsRow_blockB hv (fun j e => hgr.block j (row_rx hv j e).2 (fun e2 => row_nm hv a j e (Option.some.inj e2)))
  refine ⟨W', hr, ⟨h.tj.grown9 hx hg hn.1 hn.2.1 hn.2.2 hgr, hb _ _ _ _ h.ig, hb _ _ _ _ h.iy, ⟨_, hS, fun j => ?_⟩, hrow _ _ _ h.r0, hrow _ _ _ h.r1, hrow _ _ _ h.r2⟩⟩
  rw [mget_put]
  by_cases e : j = z
  · rw [if_pos e, if_pos e]; rfl
  · rw [if_neg e, if_neg e]; exact b j
/-- How often a number lies in a row. -/
def cnt (F : List Int) (k : Nat) (b : Int) : Int := ((F.take k).count b : Nat)
theorem cnt_zero (F : List Int) (b : Int) : cnt F 0 b = 0 := by simp [cnt]
theorem cnt_all (F : List Int) (b : Int) : cnt F F.length b = (F.count b : Nat) := by rw [cnt, List.take_length]
theorem cnt_succ (F : List Int) {k : Nat} (hk : k < F.length) (b : Int) : cnt F (k + 1) b = if b = F.getD k 0 then cnt F k b + 1 else cnt F k b := by
  have e : F.take (k + 1) = F.take k ++ [F.getD k 0] := by
    rw [List.take_succ_eq_append_getElem hk, List.getD_eq_getElem?_getD, List.getElem?_eq_getElem hk]; rfl
  rw [cnt, e, List.count_append]
  by_cases h : b = F.getD k 0
  · rw [if_pos h, h]; simp [cnt]
  · rw [if_neg h, List.count_singleton, if_neg (by simpa using fun e => h e.symm)]; simp [cnt]
theorem cnt_bd (F : List Int) (k : Nat) (b : Int) : 0 ≤ cnt F k b ∧ cnt F k b ≤ F.length := by
  have h1 : (F.take k).count b ≤ (F.take k).length := List.count_le_length
  have h2 : (F.take k).length ≤ F.length := by rw [List.length_take]; omega
  unfold cnt
  omega
theorem cutF_len (x : Ino) {M : Wl} (hs : Sz M) (bs q : Nat) : (cutF x M bs q).length ≤ 37 := by
  have hf : ∀ l : List Int, (nz l).length ≤ l.length := fun l => List.length_filter_le _ _
  have h1 := hf (x.ds4.drop q)
  have h2 := hf ((toldL x M bs).drop (q - 4))
  rw [List.length_drop] at h1 h2
  have h3 := toldL_length x hs bs
  have h4 : x.ds4.length = 4 := rfl
  rw [cutF, List.length_append, List.length_append]
  split
  · rw [List.length_singleton]; omega
  · rw [List.length_nil]; omega
end

section
set_option maxHeartbeats 8000000 in
theorem cuts_walk {w : World} (v : Value) (ls : List St9) (hl : Sl9 w v ls) (pa : Int) (hpa : 0 ≤ pa ∧ pa < 256) : Calls Tryz.prog 5 #[v, .int .u8 pa] w fun e w' => e = .returned (.bool true) ∧ Below w.heap.size w w' := by
  have hlong := long9_any hl
  obtain ⟨⟨ao, cap, rfl, hcell⟩, hwf⟩ := hl
  have HC := Lib.hid hcell
  have HW := Lib.hid hwf
  have HLG := Lib.hid hlong
  clear hcell hwf hlong
  go_enter Tryz.func5, Tryz.ntmps5
  go_wp2_with fail
  refine HLG.out.mono ?_
  rintro e w1 ⟨lb, rfl, hlb, rfl⟩
  cases lb with
  | true =>
    go_wp2_with fail
    refine (alive09_any _).mono ?_
    rintro e w2 ⟨rfl, hB2⟩
    go_wp2_with fail
    go_ret
    exact ⟨rfl, hB2⟩
  | false =>
    have hl80 := hlb rfl
    have HL := Lib.hid hl80
    clear hlb hl80 HLG
    go_wp2_with fail
    refine (fresh_any (w0 := w) (Below.refl _ w)).mono ?_
    rintro e w2 ⟨tb, rfl, X, p, jb, m, hT, hX, hjb, htb, hm⟩
    unfold gv ic freshI
    have HT := Lib.hid hT
    clear hT
    go_wp2_with fail
    obtain ⟨W3, hW3⟩ : ∃ W3, (w2.alloc (.cells #[.int .i64 8, .int .i64 16, .int .i64 40] 56)).alloc (.cells #[.int .u8 1, .int .u16 0, .int .u32 2304, .int .u16 0, .int .u16 0, .int .u16 0, .int .u16 0, .int .u16 16] 61) = W3 := ⟨_, rfl⟩
    rw [hW3]
    have hB3 : Below w2.heap.size w2 W3 := by rw [← hW3]; exact bal (bnew _ _) _
    have b1 : W3.heap[w2.heap.size]? = some (.cells gvc 56 (0, 0)) := by rw [← hW3]; exact (hp_old _ _ (by simp)).trans (hp_new _ _ rfl)
    have b2 : W3.heap[w2.heap.size + 1]? = some (.cells (ic freshI) 61 (0, 0)) := by rw [← hW3]; exact hp_new _ _ (by simp)
    have hs3 := blk_lt b2
    have hK0 : RmI9 w (fun k => X k ∨ w2.heap.size ≤ k ∧ k < W3.heap.size) p jb tb m w2.heap.size (w2.heap.size + 1) freshI freshM W3 := ⟨HT.out.take hB3, b1, b2, fresh_st, rfl⟩
    have hw := HT.out.j.dev.below.size
    have hj2 := blk_lt HT.out.j.obj
    have ht2 := blk_lt HT.out.t.obj
    have hm2 := HT.out.t.mlt
    obtain ⟨bg, hbg⟩ : ∃ bg, w2.heap.size = bg := ⟨_, rfl⟩
    rw [hbg] at hK0 hs3 hw hj2 ht2 hm2
    simp only [hbg]
    obtain ⟨bx, hbx⟩ : ∃ bx, bg + 1 = bx := ⟨_, rfl⟩
    rw [hbx] at hK0 hs3
    simp only [hbx]
    have hRW : RmX9 w (fun k => X k ∨ bg ≤ k ∧ k < W3.heap.size) jb tb m bg bx := ⟨.inr ⟨by omega, by omega⟩, .inr ⟨by omega, by omega⟩, by omega, by omega, by omega, by omega, by omega⟩
    have HRX := Lib.hid hRW
    have HK0 := Lib.hid hK0
    clear hW3 hB3 b1 b2 hs3 hK0 hw hj2 ht2 hm2 hbg hbx hRW HT hX hjb htb hm
    generalize (fun k => X k ∨ bg ≤ k ∧ k < W3.heap.size) = X at *
    go_loopw [9, 10, 11] (fun vi _ _ wr => ∃ (k : Nat) (x : Ino) (M : Wl), k ≤ ls.length ∧ vi = .int .i64 k ∧ RmI9 w X p jb tb m bg bx x M wr) (fun vi _ _ _ => ls.length - (intOf vi).toNat)
    case atStart => exact ⟨0, _, _, Nat.zero_le _, rfl, HK0.out⟩
    case round =>
      obtain ⟨k, x, M, hk, rfl, hR⟩ := hrel
      by_cases hlt : k < ls.length
      · obtain ⟨b, off, rfl, hb, hc⟩ := HC.out (by omega)
        obtain ⟨c0, c1, c2, c3⟩ := hc k hlt
        obtain ⟨-, -, hbwf, -⟩ := HW.out (ls.getD k st90) (by rw [List.getD_eq_getElem?_getD, List.getElem?_eq_getElem hlt]; exact List.getElem_mem hlt)
        generalize ls.getD k st90 = sp at *
        obtain ⟨kk, hkk⟩ : ∃ kk : Nat, IntKind.u64.wrap sp.page % 36 = (kk : Int) := ⟨(IntKind.u64.wrap sp.page % 36).toNat, by omega⟩
        have hkk36 : kk < 36 := by omega
        have hkt : (IntKind.u64.wrap sp.page).tmod 36 = (kk : Int) := by rw [Int.tmod_eq_emod_of_nonneg (by rw [IntKind.wrap_u64]; omega)]; exact hkk
        have hw2 : IntKind.i64.wrap (kk : Int) = (kk : Int) := i64_sm (by omega) (by omega)
        have hw3 : wrap64 (kk : Int) = (kk : Int) := by unfold wrap64; omega
        obtain ⟨v, hv⟩ : ∃ v : Int, sp.b % 16 = v := ⟨_, rfl⟩
        have hvt : sp.b.tmod 16 = v := by rw [Int.tmod_eq_emod_of_nonneg (wfu16 hbwf).1]; exact hv
        have hv0 : 0 ≤ v := by omega
        have hv16 : v < 16 := by omega
        have hset := fun (W2 : World) (X2 : Nat → Prop) (h2 : TJ w X2 p jb 63 0 1 40 0 0 (newS 63) tb m M false W2) => bset_any h2 geoN_small hR.st (by rw [hR.n]; rfl) hv0 (by omega) (by omega) kk hkk36
        have hS : ∀ W' : World, W'.heap[bg]? = some (.cells gvc 56 (0, 0)) → W'.heap[bx]? = some (.cells (ic x) 61 (0, 0)) → Below w.heap.size w W' → S9 bg bx x b (off + k * 4) sp W' := fun W' h1 h2 h3 => s9_of h1 h2 ((h3.cell (p := ⟨b, off + k * 4 + 1, none⟩) hb).trans c1) ((h3.cell (p := ⟨b, off + k * 4 + 2, none⟩) hb).trans c2)
        unfold S9 at hS
        obtain ⟨y, hy⟩ : ∃ y, stX x kk v = y := ⟨_, rfl⟩
        rw [hy] at hset
        unfold gv ic at hset
        have hst : St y (stM x M 62 kk v) 62 16 ∧ y.n = 16 := by rw [← hy]; exact ⟨hR.st.set kk hv0 (by omega) (by omega), by rw [stX_n]; exact hR.n⟩
        have HST := Lib.hid hst
        have HSET := Lib.hid hset
        have HS := Lib.hid hS
        have HR := Lib.hid hR
        have HV := Lib.hid hv16
        clear hset hR hc c0 c1 c2 c3 hbwf hS hst hy hkk hv
        go_wp2_with fail
        apply region_mid (R := fun nb W' => W'.heap[nb]? = some (.cells (ic y) 61 (0, 0)) ∧ TJ w X p jb 63 0 1 40 0 0 (newS 63) tb m (stM x M 62 kk v) false W' ∧ W'.heap[bg]? = some (.cells gvc 56 (0, 0)) ∧ W'.heap[bx]? = some (.cells (ic x) 61 (0, 0)) ∧ nb ≠ bx)
        case h =>
          refine wp_region_held_drew (S := fun Wq => (Wq.cell? ⟨bg, 0, none⟩ = some (.int .i64 8) ∧ Wq.cell? ⟨bg, 1, none⟩ = some (.int .i64 16) ∧ Wq.cell? ⟨bg, 2, none⟩ = some (.int .i64 40)) ∧ (Wq.cell? ⟨bx, 0, none⟩ = some (.int .u8 x.k) ∧ Wq.cell? ⟨bx, 1, none⟩ = some (.int .u16 x.l) ∧ Wq.cell? ⟨bx, 2, none⟩ = some (.int .u32 x.s) ∧ Wq.cell? ⟨bx, 3, none⟩ = some (.int .u16 x.d0) ∧ Wq.cell? ⟨bx, 4, none⟩ = some (.int .u16 x.d1) ∧ Wq.cell? ⟨bx, 5, none⟩ = some (.int .u16 x.d2) ∧ Wq.cell? ⟨bx, 6, none⟩ = some (.int .u16 x.d3) ∧ Wq.cell? ⟨bx, 7, none⟩ = some (.int .u16 x.n)) ∧ Wq.cell? ⟨b, off + k * 4 + 1, none⟩ = some (.int .i64 sp.page) ∧ Wq.cell? ⟨b, off + k * 4 + 2, none⟩ = some (.int .u16 sp.b)) (by kernel_rfl) (by exact HS.out _ HR.out.ig HR.out.ix HR.out.tj.j.dev.below.drew) (fun hHeld => ?_)
          refine wpAnyH_now (i := 0) (v := ?v200) rfl (by kernel_rfl) (by kernel_rfl) (by kernel_rfl) (fun _ _ _ h => h) (by rfl) ?h200 (by assumption) ?_
          case h200 => ((intro w hSw; (try dsimp only at hSw); go_simp); try with_reducible rfl)
          (try simp only [Act.put, List.setIfInBounds_toArray, List.set_cons_succ, List.set_cons_zero])
          refine wpAnyH_now (i := 1) (v := ?v201) rfl (by kernel_rfl) (by kernel_rfl) (by kernel_rfl) (fun _ _ _ h => h) (by rfl) ?h201 (by assumption) ?_
          case h201 => ((intro w hSw; (try dsimp only at hSw); go_simp); try with_reducible rfl)
          (try simp only [Act.put, List.setIfInBounds_toArray, List.set_cons_succ, List.set_cons_zero])
          refine wpAnyH_now (i := 2) (v := ?v202) rfl (by kernel_rfl) (by kernel_rfl) (by kernel_rfl) (fun _ _ _ h => h) (by rfl) ?h202 (by assumption) ?_
          case h202 => ((intro w hSw; (try dsimp only at hSw); go_simp); try with_reducible rfl)
          (try simp only [Act.put, List.setIfInBounds_toArray, List.set_cons_succ, List.set_cons_zero])
          refine wpAnyH_now (i := 3) (v := ?v203) rfl (by kernel_rfl) (by kernel_rfl) (by kernel_rfl) (fun _ _ _ h => h) (by rfl) ?h203 (by assumption) ?_
          case h203 => ((intro w hSw; (try dsimp only at hSw); go_simp); try with_reducible rfl)
          (try simp only [Act.put, List.setIfInBounds_toArray, List.set_cons_succ, List.set_cons_zero])
          refine wpAnyH_now (i := 4) (v := ?v204) rfl (by kernel_rfl) (by kernel_rfl) (by kernel_rfl) (fun _ _ _ h => h) (by rfl) ?h204 (by assumption) ?_
          case h204 => ((intro w hSw; (try dsimp only at hSw); go_simp); try with_reducible rfl)
          (try simp only [Act.put, List.setIfInBounds_toArray, List.set_cons_succ, List.set_cons_zero])
          refine wpAnyH_now (i := 5) (v := ?v205) rfl (by kernel_rfl) (by kernel_rfl) (by kernel_rfl) (fun _ _ _ h => h) (by rfl) ?h205 (by assumption) ?_
          case h205 => ((intro w hSw; (try dsimp only at hSw); go_simp); try with_reducible rfl)
          (try simp only [Act.put, List.setIfInBounds_toArray, List.set_cons_succ, List.set_cons_zero])
          refine wpAnyH_now (i := 6) (v := ?v206) rfl (by kernel_rfl) (by kernel_rfl) (by kernel_rfl) (fun _ _ _ h => h) (by rfl) ?h206 (by assumption) ?_
          case h206 => ((intro w hSw; (try dsimp only at hSw); go_simp); try with_reducible rfl)
          (try simp only [Act.put, List.setIfInBounds_toArray, List.set_cons_succ, List.set_cons_zero])
          refine wpAnyH_now (i := 7) (v := ?v207) rfl (by kernel_rfl) (by kernel_rfl) (by kernel_rfl) (fun _ _ _ h => h) (by rfl) ?h207 (by assumption) ?_
          case h207 => ((intro w hSw; (try dsimp only at hSw); go_simp); try with_reducible rfl)
          (try simp only [Act.put, List.setIfInBounds_toArray, List.set_cons_succ, List.set_cons_zero])
          refine wpAnyH_now (i := 8) (v := ?v208) rfl (by kernel_rfl) (by kernel_rfl) (by kernel_rfl) (fun _ _ _ h => h) (by rfl) ?h208 (by assumption) ?_
          case h208 => ((intro w hSw; (try dsimp only at hSw); go_simp); try with_reducible rfl)
          (try simp only [Act.put, List.setIfInBounds_toArray, List.set_cons_succ, List.set_cons_zero])
          refine wpAnyH_now (i := 9) (v := ?v209) rfl (by kernel_rfl) (by kernel_rfl) (by kernel_rfl) (fun _ _ _ h => h) (by rfl) ?h209 (by assumption) ?_
          case h209 => ((intro w hSw; (try dsimp only at hSw); go_simp); try with_reducible rfl)
          (try simp only [Act.put, List.setIfInBounds_toArray, List.set_cons_succ, List.set_cons_zero])
          refine wpAnyH_now (i := 10) (v := ?v210) rfl (by kernel_rfl) (by kernel_rfl) (by kernel_rfl) (fun _ _ _ h => h) (by rfl) ?h210 (by assumption) ?_
          case h210 => ((intro w hSw; (try dsimp only at hSw); go_simp); try with_reducible rfl)
          (try simp only [Act.put, List.setIfInBounds_toArray, List.set_cons_succ, List.set_cons_zero])
          refine wpAnyH_now (i := 11) (v := ?v211) rfl (by kernel_rfl) (by kernel_rfl) (by kernel_rfl) (fun _ _ _ h => h) (by rfl) ?h211 (by assumption) ?_
          case h211 => ((intro w hSw; (try dsimp only at hSw); go_simp); try with_reducible rfl)
          (try simp only [Act.put, List.setIfInBounds_toArray, List.set_cons_succ, List.set_cons_zero])
          refine wpAnyH_now (i := 12) (v := ?v212) rfl (by kernel_rfl) (by kernel_rfl) (by kernel_rfl) (fun _ _ _ h => h) (by rfl) ?h212 (by assumption) ?_
          case h212 => ((intro w hSw; (try dsimp only at hSw); go_simp); try with_reducible rfl)
          (try simp only [Act.put, List.setIfInBounds_toArray, List.set_cons_succ, List.set_cons_zero])
          refine wpAnyH_now (i := 13) (v := ?v213) rfl (by kernel_rfl) (by kernel_rfl) (by kernel_rfl) (fun _ _ _ h => h) (by rfl) ?h213 (by assumption) ?_
          case h213 => ((intro w hSw; (try dsimp only at hSw); go_simp); try with_reducible rfl)
          (try simp only [Act.put, List.setIfInBounds_toArray, List.set_cons_succ, List.set_cons_zero])
          refine wpAnyH_now (i := 14) (v := ?v214) rfl (by kernel_rfl) (by kernel_rfl) (by kernel_rfl) (fun _ _ _ h => h) (by rfl) ?h214 (by assumption) ?_
          case h214 => ((intro w hSw; (try dsimp only at hSw); go_simp); try with_reducible rfl)
          (try simp only [Act.put, List.setIfInBounds_toArray, List.set_cons_succ, List.set_cons_zero])
          refine wpAnyH_now (i := 15) (v := ?v215) rfl (by kernel_rfl) (by kernel_rfl) (by kernel_rfl) (fun _ _ _ h => h) (by rfl) ?h215 (by assumption) ?_
          case h215 => ((intro w hSw; (try dsimp only at hSw); go_simp); try with_reducible rfl)
          (try simp only [Act.put, List.setIfInBounds_toArray, List.set_cons_succ, List.set_cons_zero])
          refine wpAnyH_now (i := 16) (v := ?v216) rfl (by kernel_rfl) (by kernel_rfl) (by kernel_rfl) (fun _ _ _ h => h) (by rfl) ?h216 (by assumption) ?_
          case h216 => ((intro w hSw; (try dsimp only at hSw); go_simp); try with_reducible rfl)
          (try simp only [Act.put, List.setIfInBounds_toArray, List.set_cons_succ, List.set_cons_zero])
          refine wpAnyH_two (i := 17) (j := 21) (by kernel_rfl) rfl rfl (by rfl) (by rfl) (fun K hK => ?_) (fun K hK => ?_)
          · go_simp
            refine (HSET.out _ _ (HR.out.tj.of (Below.refl _ _).drew)).mono ?_
            rintro e w4 ⟨rfl, hT4, hK4⟩
            have hg4 := (hK4 bg (.inr ⟨HRX.out.xg, HRX.out.gj.2.2⟩)).trans HR.out.ig
            have hx4 := (hK4 bx (.inr ⟨HRX.out.xx, HRX.out.xj.2.2⟩)).trans HR.out.ix
            refine hK.out _ _ (by exact HS.out _ hg4 hx4 hT4.j.dev.below) (fun hHeld => ?_)
            clear hK K
            (try simp only [Act.put, List.setIfInBounds_toArray, List.set_cons_succ, List.set_cons_zero])
            refine wpAnyH_now (i := 18) (v := ?v217) rfl (by kernel_rfl) (by kernel_rfl) (by kernel_rfl) (fun _ _ _ h => h) (by rfl) ?h217 (by assumption) ?_
            case h217 => ((intro w hSw; (try dsimp only at hSw); go_simp); try with_reducible rfl)
            (try simp only [Act.put, List.setIfInBounds_toArray, List.set_cons_succ, List.set_cons_zero])
            refine wpAnyH_now (i := 19) (v := ?v218) rfl (by kernel_rfl) (by kernel_rfl) (by kernel_rfl) (fun _ _ _ h => h) (by rfl) ?h218 (by assumption) ?_
            case h218 => ((intro w hSw; (try dsimp only at hSw); go_simp); try with_reducible rfl)
            (try simp only [Act.put, List.setIfInBounds_toArray, List.set_cons_succ, List.set_cons_zero])
            refine wpAnyH_now (i := 20) (v := ?v219) rfl (by kernel_rfl) (by kernel_rfl) (by kernel_rfl) (fun _ _ _ h => h) (by rfl) ?h219 (by assumption) ?_
            case h219 => ((intro w hSw; (try dsimp only at hSw); go_simp); try with_reducible rfl)
            (try simp only [Act.put, List.setIfInBounds_toArray, List.set_cons_succ, List.set_cons_zero])
            refine wpAnyH_only (i := 21) (by kernel_rfl) rfl (by rfl) (fun K hK => ?_)
            go_simp
            refine hK.out _ _ (by exact HS.out _ (blk_old hg4 _) (blk_old hx4 _) (bal hT4.j.dev.below _)) (fun hHeld => ?_)
            clear hK K
            (try simp only [Act.put, List.setIfInBounds_toArray, List.set_cons_succ, List.set_cons_zero])
            have nb := hp_new w4 (.cells #[.int .u8 0, .int .u16 0, .int .u32 0, .int .u16 0, .int .u16 0, .int .u16 0, .int .u16 0, .int .u16 0] 61) rfl
            have n0 := cl_of nb 0; have n1 := cl_of nb 1; have n2 := cl_of nb 2; have n3 := cl_of nb 3; have n4 := cl_of nb 4; have n5 := cl_of nb 5; have n6 := cl_of nb 6; have n7 := cl_of nb 7; have nz := fz_of nb
            refine wpAnyH_only (i := 22) (by kernel_rfl) rfl (by rfl) (fun K hK => ?_)
            go_simp
            refine hK.out _ _ (by exact HS.out _ (blk_old hg4 _) (blk_old hx4 _) (bal hT4.j.dev.below _)) (fun hHeld => ?_)
            clear hK K
            (try simp only [Act.put, List.setIfInBounds_toArray, List.set_cons_succ, List.set_cons_zero])
            refine wpAnyH_now (i := 23) (v := ?v220) rfl (by kernel_rfl) (by kernel_rfl) (by kernel_rfl) (fun _ _ _ h => h) (by rfl) ?h220 (by assumption) ?_
            case h220 => ((intro w hSw; (try dsimp only at hSw); go_simp); try with_reducible rfl)
            (try simp only [Act.put, List.setIfInBounds_toArray, List.set_cons_succ, List.set_cons_zero])
            refine wpAnyH_done (by kernel_rfl) ?_ _
            refine NoPanic.normal ?_
            have hxl := blk_lt hx4
            obtain ⟨nbv, hnb⟩ : ∃ k, w4.heap.size = k := ⟨_, rfl⟩
            rw [hnb]
            exact ⟨rfl, nbv, rfl, by exact ⟨hp_new _ _ hnb.symm, hT4.of (bnew _ _), blk_old hg4 _, blk_old hx4 _, by omega⟩⟩
          · go_simp
            refine hK.out _ _ (by exact HS.out _ (blk_old HR.out.ig _) (blk_old HR.out.ix _) (bal HR.out.tj.j.dev.below _).drew) (fun hHeld => ?_)
            clear hK K
            (try simp only [Act.put, List.setIfInBounds_toArray, List.set_cons_succ, List.set_cons_zero])
            have nb0 := hp_newd wr (.cells #[.int .u8 0, .int .u16 0, .int .u32 0, .int .u16 0, .int .u16 0, .int .u16 0, .int .u16 0, .int .u16 0] 61)
            refine wpAnyH_only (i := 17) (by kernel_rfl) rfl (by rfl) (fun K hK => ?_)
            have hT0 := (HR.out.tj.take (bnew wr (.cells #[.int .u8 0, .int .u16 0, .int .u32 0, .int .u16 0, .int .u16 0, .int .u16 0, .int .u16 0, .int .u16 0] 61))).of (Below.refl _ _).drew
            go_simp
            refine (HSET.out _ _ hT0).mono ?_
            rintro e w4 ⟨rfl, hT4, hK4⟩
            have hg4 := (hK4 bg (.inr ⟨.inl HRX.out.xg, HRX.out.gj.2.2⟩)).trans (blk_old HR.out.ig _)
            have hx4 := (hK4 bx (.inr ⟨.inl HRX.out.xx, HRX.out.xj.2.2⟩)).trans (blk_old HR.out.ix _)
            refine hK.out _ _ (by exact HS.out _ hg4 hx4 hT4.j.dev.below) (fun hHeld => ?_)
            clear hK K
            (try simp only [Act.put, List.setIfInBounds_toArray, List.set_cons_succ, List.set_cons_zero])
            have hmx := HR.out.tj.t.mlt
            have nb := (hK4 wr.heap.size (.inr ⟨.inr ⟨Nat.le_refl _, by simp⟩, Nat.ne_of_gt hmx⟩)).trans nb0
            have n0 := cl_of nb 0; have n1 := cl_of nb 1; have n2 := cl_of nb 2; have n3 := cl_of nb 3; have n4 := cl_of nb 4; have n5 := cl_of nb 5; have n6 := cl_of nb 6; have n7 := cl_of nb 7; have nz := fz_of nb
            refine wpAnyH_now (i := 18) (v := ?v221) rfl (by kernel_rfl) (by kernel_rfl) (by kernel_rfl) (fun _ _ _ h => h) (by rfl) ?h221 (by assumption) ?_
            case h221 => ((intro w hSw; (try dsimp only at hSw); go_simp); try with_reducible rfl)
            (try simp only [Act.put, List.setIfInBounds_toArray, List.set_cons_succ, List.set_cons_zero])
            refine wpAnyH_now (i := 19) (v := ?v222) rfl (by kernel_rfl) (by kernel_rfl) (by kernel_rfl) (fun _ _ _ h => h) (by rfl) ?h222 (by assumption) ?_
            case h222 => ((intro w hSw; (try dsimp only at hSw); go_simp); try with_reducible rfl)
            (try simp only [Act.put, List.setIfInBounds_toArray, List.set_cons_succ, List.set_cons_zero])
            refine wpAnyH_now (i := 20) (v := ?v223) rfl (by kernel_rfl) (by kernel_rfl) (by kernel_rfl) (fun _ _ _ h => h) (by rfl) ?h223 (by assumption) ?_
            case h223 => ((intro w hSw; (try dsimp only at hSw); go_simp); try with_reducible rfl)
            (try simp only [Act.put, List.setIfInBounds_toArray, List.set_cons_succ, List.set_cons_zero])
            have hxl := blk_lt HR.out.ix
            have hgl := blk_lt HR.out.ig
            refine wpAnyH_only (i := 22) (by kernel_rfl) rfl (by rfl) (fun K hK => ?_)
            go_simp
            refine hK.out _ _ (by exact HS.out _ ((sets_other (Nat.ne_of_lt hgl)).trans hg4) ((sets_other (Nat.ne_of_lt hxl)).trans hx4) (below_sets hT4.j.dev.below HR.out.tj.j.dev.below.size)) (fun hHeld => ?_)
            clear hK K
            (try simp only [Act.put, List.setIfInBounds_toArray, List.set_cons_succ, List.set_cons_zero])
            refine wpAnyH_now (i := 23) (v := ?v224) rfl (by kernel_rfl) (by kernel_rfl) (by kernel_rfl) (fun _ _ _ h => h) (by rfl) ?h224 (by assumption) ?_
            case h224 => ((intro w hSw; (try dsimp only at hSw); go_simp); try with_reducible rfl)
            (try simp only [Act.put, List.setIfInBounds_toArray, List.set_cons_succ, List.set_cons_zero])
            refine wpAnyH_done (by kernel_rfl) ?_ _
            refine NoPanic.normal ?_
            have hwl := HR.out.tj.j.dev.below.size
            have hjl := blk_lt HR.out.tj.j.obj
            have htl := blk_lt HR.out.tj.t.obj
            obtain ⟨nbv, hnb⟩ : ∃ k, wr.heap.size = k := ⟨_, rfl⟩
            rw [hnb]
            exact ⟨rfl, nbv, rfl, by (rw [hnb] at nb hmx hxl hgl hwl hjl htl; exact ⟨put8_here (x := Ino.zero) nb y, (hT4.put8 (b := nbv) (.inr ⟨Nat.le_of_eq hnb, by (rw [← hnb]; simp)⟩) hwl (by omega) (by omega) (by omega) y).less (fun _ h => .inl h) HR.out.tj.j.own HR.out.tj.xt HR.out.tj.xm, (sets_other (Nat.ne_of_lt hgl)).trans hg4, (sets_other (Nat.ne_of_lt hxl)).trans hx4, by omega⟩)⟩
        case hc =>
          rintro nb w6 ⟨hn6, hT6, hg6, hx6, hne⟩
          have hI6 : RmI9 w X p jb tb m bg bx y (stM x M 62 kk v) (put8 w6 bx y) := ⟨hT6.put8 HRX.out.xx HRX.out.gx HRX.out.xj.1 HRX.out.xj.2.1 HRX.out.xj.2.2 _, (put8_other _ HRX.out.ne _).trans hg6, put8_here hx6 _, HST.out.1, HST.out.2⟩
          unfold put8 at hI6
          have HI6 := Lib.hid hI6
          unfold ic at hn6 hx6
          have n0 := cl_of hn6 0
          have n1 := cl_of hn6 1
          have n2 := cl_of hn6 2
          have n3 := cl_of hn6 3
          have n4 := cl_of hn6 4
          have n5 := cl_of hn6 5
          have n6 := cl_of hn6 6
          have n7 := cl_of hn6 7
          have s0 := cl_of hx6 0
          have s1 := cl_of hx6 1
          have s2 := cl_of hx6 2
          have s3 := cl_of hx6 3
          have s4 := cl_of hx6 4
          have s5 := cl_of hx6 5
          have s6 := cl_of hx6 6
          have s7 := cl_of hx6 7
          have sz := fz_of hx6
          clear hn6 hT6 hg6 hx6 hI6 HSET HS
          generalize stM x M 62 kk v = M2 at *
          go_wp2_with fail
          have hl80 := HL.out
          have hwk : wrap64 ((k : Int) + 1) = ((k + 1 : Nat) : Int) := by unfold wrap64; omega
          clear hw3 hw2 hkt hvt
          go_roundw
          case rel => exact ⟨k + 1, y, M2, by omega, by rw [hwk], HI6.out⟩
          case measure => rw [hwk]; simp [intOf]; omega
      · obtain rfl : k = ls.length := by omega
        clear HC HW HL hk hlt HK0
        have hmz := cutM_zero x M 62
        have hall := ball_any2 hR.tj geoN_small ⟨mays_small, by decide, hR.st.n.2, hR.st.d⟩ hR.st.wf hR.st.sz (fun _ => by rw [hR.n]; rfl) (.inl hR.st.here)
        rw [hmz] at hall
        unfold gv ic at hall
        obtain ⟨q, hq⟩ : ∃ q : Nat, pa % 37 = (q : Int) := ⟨(pa % 37).toNat, by omega⟩
        have hq36 : q ≤ 36 := by omega
        have hpt : pa.tmod 37 = (q : Int) := by rw [Int.tmod_eq_emod_of_nonneg hpa.1]; exact hq
        have hpw : wrap64 pa = pa := by unfold wrap64; omega
        have hpi : IntKind.i64.wrap pa = pa := i64_sm (by omega) (by omega)
        have hperm := cut_perm x hR.st.sz 62 q
        have hok := cut_ok hR.st hR.n q
        have hmz2 := cutM_zero (x.cut q) (cutM x M 62 q) 62
        have hpgc := fun k (hk : q ≤ k) => pg_cut x hR.st.sz 62 (p := q) (k := k) hk
        have hl0 := cutF_len x hR.st.sz 62 0
        have hl1 := cutF_len x hR.st.sz 62 q
        have hl2 := cutF_len (x.cut q) hok.2.2.2.2.1 62 0
        have hw0 := cutF_wf hR.st.wf M 62 0
        have hw1 := cutF_wf hR.st.wf M 62 q
        have hw2 := cutF_wf hok.1 (cutM x M 62 q) 62 0
        have hyn : (x.cut q).n = if q ≤ 4 then 0 else 16 := by
          rw [Ino.cut_n, hR.n]
          by_cases h4 : q ≤ 4
          · rw [if_pos ⟨by decide, h4⟩, if_pos h4]
          · rw [if_neg (fun h => h4 h.2), if_neg h4]
        obtain ⟨F0, hF0⟩ : ∃ F0, cutF x M 62 0 = F0 := ⟨_, rfl⟩
        obtain ⟨F1, hF1⟩ : ∃ F1, cutF x M 62 q = F1 := ⟨_, rfl⟩
        obtain ⟨y, hy⟩ : ∃ y, x.cut q = y := ⟨_, rfl⟩
        obtain ⟨M2, hM2⟩ : ∃ M2, cutM x M 62 q = M2 := ⟨_, rfl⟩
        rw [hF0, hF1] at hperm
        rw [hy, hM2] at hperm hok hmz2 hpgc hl2 hw2
        rw [hy] at hyn
        obtain ⟨F2, hF2⟩ : ∃ F2, cutF y M2 62 0 = F2 := ⟨_, rfl⟩
        rw [hF2] at hperm hl2 hw2
        rw [hF0] at hall hl0 hw0
        rw [hF1] at hl1 hw1
        have HPERM := Lib.hid hperm
        have HOK := Lib.hid hok
        have HPG := Lib.hid hpgc
        have HLN := Lib.hid (show F0.length ≤ 37 ∧ F1.length ≤ 37 ∧ F2.length ≤ 37 from ⟨hl0, hl1, hl2⟩)
        have HWF := Lib.hid (show (∀ z ∈ F0, (Lit.int .u16 z).wf = true) ∧ (∀ z ∈ F1, (Lit.int .u16 z).wf = true) ∧ (∀ z ∈ F2, (Lit.int .u16 z).wf = true) from ⟨hw0, hw1, hw2⟩)
        have HYN := Lib.hid hyn
        have HQ := Lib.hid (show x.cut q = y ∧ cutM x M 62 q = M2 ∧ cutF x M 62 q = F1 ∧ cutF y M2 62 0 = F2 ∧ cutM y M2 62 0 = M2 from ⟨hy, hM2, hF1, hF2, hmz2⟩)
        have HQ36 := Lib.hid hq36
        have HALL := Lib.hid hall
        have HR := Lib.hid hR
        have hgi := hR.ig
        have hxi := hR.ix
        unfold gvc at hgi
        unfold ic at hxi
        have g0 := cl_of hgi 0
        have g1 := cl_of hgi 1
        have g2 := cl_of hgi 2
        have x0 := cl_of hxi 0
        have x1 := cl_of hxi 1
        have x2 := cl_of hxi 2
        have x3 := cl_of hxi 3
        have x4 := cl_of hxi 4
        have x5 := cl_of hxi 5
        have x6 := cl_of hxi 6
        have x7 := cl_of hxi 7
        clear hall hmz hperm hok hmz2 hpgc hl0 hl1 hl2 hw0 hw1 hw2 hyn hF0 hF1 hF2 hy hM2 hR hgi hxi hq hpa
        go_wp2_with fail
        refine HALL.out.mono ?_
        rintro e w4 ⟨v0, X1, rfl, hrow0, hX1, hrx1, hT4, hK4⟩
        obtain ⟨a0, c0, rfl⟩ := row_val hrow0
        have hg4 := (hK4 bg (.inr ⟨HRX.out.xg, HRX.out.gj.2.2⟩)).trans HR.out.ig
        have hx4 := (hK4 bx (.inr ⟨HRX.out.xx, HRX.out.xj.2.2⟩)).trans HR.out.ix
        have hc5 := bcut_any2 hT4 geoN_small ⟨mays_small, by decide, HR.out.st.n.2, HR.out.st.d⟩ HR.out.st.wf HR.out.st.sz (fun _ => by rw [HR.out.n]; rfl) q HQ36.out (.inl HR.out.st.here)
        unfold CutPost2 at hc5
        rw [HQ.out.1, HQ.out.2.1, HQ.out.2.2.1] at hc5
        unfold gv ic at hc5
        have HC5 := Lib.hid hc5
        have HR0 := Lib.hid hrow0
        have HX1 := Lib.hid hX1
        have HRX1 := Lib.hid hrx1
        have HT4 := Lib.hid hT4
        have HG4 := Lib.hid hg4
        unfold gvc at hg4
        unfold ic at hx4
        have g0 := cl_of hg4 0
        have g1 := cl_of hg4 1
        have g2 := cl_of hg4 2
        have x0 := cl_of hx4 0
        have x1 := cl_of hx4 1
        have x2 := cl_of hx4 2
        have x3 := cl_of hx4 3
        have x4 := cl_of hx4 4
        have x5 := cl_of hx4 5
        have x6 := cl_of hx4 6
        have x7 := cl_of hx4 7
        clear HALL hrow0 hX1 hrx1 hT4 hK4 hg4 hx4 hc5
        go_wp2_with fail
        refine HC5.out.mono ?_
        rintro e w6 ⟨v1, X2, rfl, hrow1, hX2, hrx2, hT6, hK6⟩
        obtain ⟨a1, c1, rfl⟩ := row_val hrow1
        have hm4 := HT4.out.t
        have hg6 := (hK6 bg (.inr ⟨HX1.out _ HRX.out.xg, HRX.out.gj.2.2⟩)).trans HG4.out
        have hr06 := row_kb HR0.out hK6 (fun j e => ⟨HRX1.out j e, (by obtain ⟨L, hL, -⟩ := HT4.out.t.map; exact row_nm HR0.out hL j e)⟩)
        have hT7 := hT6.take (bnew w6 (.cells #[.int .u8 y.k, .int .u16 y.l, .int .u32 y.s, .int .u16 y.d0, .int .u16 y.d1, .int .u16 y.d2, .int .u16 y.d3, .int .u16 y.n] 61))
        have hB7 := hp_new w6 (.cells #[.int .u8 y.k, .int .u16 y.l, .int .u32 y.s, .int .u16 y.d0, .int .u16 y.d1, .int .u16 y.d2, .int .u16 y.d3, .int .u16 y.n] 61) rfl
        have hc7 := ball_any2 hT7 geoN_small ⟨mays_small, by decide, HOK.out.2.2.1, HOK.out.2.1⟩ HOK.out.1 HOK.out.2.2.2.2.1 (fun hn => by rw [HOK.out.2.2.2.1 hn]; rfl) (.inl HOK.out.2.2.2.2.2)
        rw [HQ.out.2.2.2.1, HQ.out.2.2.2.2] at hc7
        unfold gv ic at hc7
        have HC7 := Lib.hid hc7
        have HR06 := Lib.hid hr06
        have HR1 := Lib.hid hrow1
        have HX2 := Lib.hid hX2
        have HRX2 := Lib.hid hrx2
        have HT6 := Lib.hid hT6
        have HG6 := Lib.hid hg6
        have HB7 := Lib.hid hB7
        have hgl := blk_lt hg6
        unfold gvc at hg6
        have g0 := cl_of hg6 0
        have g1 := cl_of hg6 1
        have g2 := cl_of hg6 2
        have y0 := cl_of hB7 0
        have y1 := cl_of hB7 1
        have y2 := cl_of hB7 2
        have y3 := cl_of hB7 3
        have y4 := cl_of hB7 4
        have y5 := cl_of hB7 5
        have y6 := cl_of hB7 6
        have y7 := cl_of hB7 7
        clear HC5 hrow1 hX2 hrx2 hT6 hK6 hg6 hr06 hT7 hB7 hc7 hm4 HT4 HG4
        go_wp2_with fail
        refine HC7.out.mono ?_
        rintro e w8 ⟨v2, X4, rfl, hrow2, hX4, hrx4, hT8, hK8⟩
        obtain ⟨a2, c2, rfl⟩ := row_val hrow2
        have hm6 := HT6.out.t.mlt
        have hg8 := (hK8 bg (.inr ⟨.inl (HX2.out _ (HX1.out _ HRX.out.xg)), HRX.out.gj.2.2⟩)).trans (blk_old HG6.out _)
        have hb8 := (hK8 w6.heap.size (.inr ⟨.inr ⟨Nat.le_refl _, by simp⟩, Nat.ne_of_gt hm6⟩)).trans HB7.out
        have hr08 := row_kb (row_below HR06.out (bnew w6 (.cells #[.int .u8 y.k, .int .u16 y.l, .int .u32 y.s, .int .u16 y.d0, .int .u16 y.d1, .int .u16 y.d2, .int .u16 y.d3, .int .u16 y.n] 61))) hK8 (fun j e => ⟨.inl (HX2.out _ (HRX1.out j e)), (by obtain ⟨L, hL, -⟩ := HT6.out.t.map; exact row_nm HR06.out hL j e)⟩)
        have hr18 := row_kb (row_below HR1.out (bnew w6 (.cells #[.int .u8 y.k, .int .u16 y.l, .int .u32 y.s, .int .u16 y.d0, .int .u16 y.d1, .int .u16 y.d2, .int .u16 y.d3, .int .u16 y.n] 61))) hK8 (fun j e => ⟨.inl (HRX2.out j e), (by obtain ⟨L, hL, -⟩ := HT6.out.t.map; exact row_nm HR1.out hL j e)⟩)
        have hjb8 := blk_lt hT8.j.obj
        have htb8 := blk_lt hT8.t.obj
        have hmm8 := hT8.t.mlt
        have hww8 := hT8.j.dev.below.size
        have hB9 := bnew w8 (.map #[] 0)
        obtain ⟨X5, hX5⟩ : ∃ X5 : Nat → Prop, (fun k => X4 k ∨ w8.heap.size ≤ k ∧ k < (w8.alloc (.map #[] 0)).heap.size) = X5 := ⟨_, rfl⟩
        have hT9 := hT8.take hB9
        rw [hX5] at hT9
        have hxs : X5 w8.heap.size := by rw [← hX5]; exact .inr ⟨Nat.le_refl _, by simp⟩
        have hC0 : CntI w X5 p jb tb m bg w6.heap.size w8.heap.size y M2 (.slice a0 F0.length c0) (.slice a1 F1.length c1) (.slice a2 F2.length c2) F0 F1 F2 (fun b => cnt F0 0 b) (w8.alloc (.map #[] 0)) :=
          ⟨hT9, blk_old hg8 _, blk_old hb8 _, ⟨[], MapS.new _ _, fun b => by rw [cnt_zero]; rfl⟩, row_below (ownsRow_weak hr08 (Nat.zero_le _)) hB9, row_below (ownsRow_weak hr18 (Nat.zero_le _)) hB9, row_below (ownsRow_weak hrow2 (Nat.zero_le _)) hB9⟩
        obtain ⟨by', hby⟩ : ∃ by', w6.heap.size = by' := ⟨_, rfl⟩
        obtain ⟨ms, hms⟩ : ∃ ms, w8.heap.size = ms := ⟨_, rfl⟩
        have hy8 : w8.cell? ⟨by', 7, none⟩ = some (.int .u16 y.n) := by rw [← hby]; exact cl_of hb8 7
        have hplen : F0.length = F1.length + F2.length := by rw [HPERM.out.length_eq, List.length_append]
        have hcnt : ∀ b, (F0.count b : Int) = (F1.count b : Int) + (F2.count b : Int) := fun b => by rw [HPERM.out.count_eq, List.count_append]; push_cast; rfl
        have HCNT := Lib.hid hcnt
        rw [hby, hms] at hC0
        rw [hms] at hxs
        have HXS : Hid (X5 ms ∧ w.heap.size ≤ ms ∧ ms ≠ jb ∧ ms ≠ tb ∧ ms ≠ m) := Lib.hid ⟨hxs, by omega, by omega, by omega, by omega⟩
        have hm3 := HLN.out
        obtain ⟨n0, hn0⟩ : ∃ n0, F0.length = n0 := ⟨_, rfl⟩
        obtain ⟨n1, hn1⟩ : ∃ n1, F1.length = n1 := ⟨_, rfl⟩
        obtain ⟨n2, hn2⟩ : ∃ n2, F2.length = n2 := ⟨_, rfl⟩
        have HN := Lib.hid (show F0.length = n0 ∧ F1.length = n1 ∧ F2.length = n2 from ⟨hn0, hn1, hn2⟩)
        rw [hn0, hn1, hn2] at hplen hm3
        rw [hn0, hn1, hn2] at hC0
        have HC0 := Lib.hid hC0
        simp only [hn0, hn1, hn2, hby]
        obtain ⟨e17, e17w, e17i⟩ := len17 hplen hm3.2.1 hm3.2.2
        obtain ⟨cb, e18, e19, e19b⟩ := ind17 HYN.out
        have hmm := @run_makeMap Tryz.prog
        have HHM3 := Lib.hid hm3
        clear HC7 hrow2 hX4 hrx4 hT8 hK8 hg8 hb8 hr08 hr18 hjb8 htb8 hmm8 hww8 hB9 hX5 hT9 hxs hC0 hplen hcnt hm3 hn0 hn1 hn2 HR06 HR1 HX2 HRX2 HT6 HG6 HB7 HR0 HX1 HRX1 hm6
        go_wp2_with fail
        clear hpt hpw hpi e17 e17w e17i e18 e19 e19b hmm hy8 hgl
        go_loopw [21] (fun vi wr => ∃ k : Nat, k ≤ n0 ∧ vi = .int .i64 k ∧ CntI w X5 p jb tb m bg by' ms y M2 (.slice a0 n0 c0) (.slice a1 n1 c1) (.slice a2 n2 c2) F0 F1 F2 (fun b => cnt F0 k b) wr) (fun vi _ => n0 - (intOf vi).toNat)
        case atStart => exact ⟨0, Nat.zero_le _, rfl, HC0.out⟩
        case round =>
          obtain ⟨k, hk, rfl, hI⟩ := hrel
          by_cases hlt : k < n0
          · have hkF : k < F0.length := by have := HN.out; omega
            have hz := HWF.out.1 (F0.getD k 0) (by rw [List.getD_eq_getElem?_getD, List.getElem?_eq_getElem hkF]; exact List.getElem_mem hkF)
            have hr := hI.r0
            obtain ⟨g, rfl, hd⟩ : ∃ g, a0 = some ⟨g, 0, none⟩ ∧ wr.cell? ⟨g, k, none⟩ = some (.int .u16 (F0.getD k 0)) := by
              rcases hr.2 with ⟨e, h0⟩ | ⟨g, cap, cur, e, _⟩
              · omega
              · cases e
                exact ⟨g, rfl, ownsRow_cell hr rfl (u16s_get F0 hkF)⟩
            have hb0 := cnt_bd F0 k (F0.getD k 0)
            have hb1 := cnt_bd F1 k (F0.getD k 0)
            have hb2 := cnt_bd F2 k (F0.getD k 0)
            have hb3 := cnt_bd F0 F0.length (F0.getD k 0)
            have hb4 := cnt_bd F1 F1.length (F0.getD k 0)
            have hm3 := HLN.out
            have hlk := hI.look (F0.getD k 0)
            obtain ⟨cc, hcc⟩ : ∃ cc : Int, cnt F0 k (F0.getD k 0) = cc := ⟨_, rfl⟩
            have hcb : -200 ≤ cc ∧ cc ≤ 200 := by omega
            rw [hcc] at hlk
            obtain ⟨W7, hr7, hI7⟩ := hI.put HXS.out.1 HXS.out.2.1 HXS.out.2.2 hz (cc + 1)
            have hsu := cnt_succ F0 hkF
            have hfe : (fun b => if b = F0.getD k 0 then cc + 1 else cnt F0 k b) = (fun b => cnt F0 (k + 1) b) := by
              funext b
              by_cases e : b = F0.getD k 0
              · subst e
                have h1 := hsu (F0.getD k 0)
                rw [if_pos rfl] at h1
                rw [if_pos rfl]
                omega
              · have h1 := hsu b
                rw [if_neg e] at h1
                rw [if_neg e, h1]
            have hI8 : CntI w X5 p jb tb m bg by' ms y M2 (.slice (some ⟨g, 0, none⟩) n0 c0) (.slice a1 n1 c1) (.slice a2 n2 c2) F0 F1 F2 (fun b => cnt F0 (k + 1) b) W7 := by rw [← hfe]; exact hI7
            have HI8 := Lib.hid hI8
            have hwc : wrap64 (cc + 1) = cc + 1 := by unfold wrap64; omega
            have hwi : IntKind.i64.wrap (cc + 1) = cc + 1 := i64_sm (by omega) (by omega)
            have hwk : wrap64 ((k : Int) + 1) = ((k + 1 : Nat) : Int) := by unfold wrap64; have := HHM3.out; omega
            generalize F0.getD k 0 = z at *
            clear hI hI7 hI8 hfe hcc hb0 hb1 hb2 hb3 hb4 hm3 hcb hsu hr
            go_wp2_with fail
            clear hlk hr7 hwc hwi hd hz hkF
            go_roundw
            case rel => exact ⟨k + 1, hlt, by rw [hwk], HI8.out⟩
            case measure => (rw [hwk]; exact meas_lt hlt)
          · obtain rfl : n0 = k := by omega
            have HI := Lib.hid hI
            clear hI hk hlt
            go_wp2_with fail
            obtain ⟨wa, rfl⟩ : ∃ wa : World, wa = wr := ⟨_, rfl⟩
            go_loopw [22] (fun vi wr => ∃ k : Nat, k ≤ n1 ∧ vi = .int .i64 k ∧ CntI w X5 p jb tb m bg by' ms y M2 (.slice a0 n0 c0) (.slice a1 n1 c1) (.slice a2 n2 c2) F0 F1 F2 (fun b => cnt F0 F0.length b - cnt F1 k b) wr) (fun vi _ => n1 - (intOf vi).toNat)
            case atStart => exact ⟨0, Nat.zero_le _, rfl, by (have h := HI.out; rw [show (fun b => cnt F0 F0.length b - cnt F1 0 b) = (fun b => cnt F0 n0 b) from funext (fun b => by rw [cnt_zero, HN.out.1]; omega)]; exact h)⟩
            case round =>
              obtain ⟨k, hk, rfl, hI⟩ := hrel
              by_cases hlt : k < n1
              · have hkF : k < F1.length := by have := HN.out; omega
                have hz := HWF.out.2.1 (F1.getD k 0) (by rw [List.getD_eq_getElem?_getD, List.getElem?_eq_getElem hkF]; exact List.getElem_mem hkF)
                have hr := hI.r1
                obtain ⟨g, rfl, hd⟩ : ∃ g, a1 = some ⟨g, 0, none⟩ ∧ wr.cell? ⟨g, k, none⟩ = some (.int .u16 (F1.getD k 0)) := by
                  rcases hr.2 with ⟨e, h0⟩ | ⟨g, cap, cur, e, _⟩
                  · omega
                  · cases e
                    exact ⟨g, rfl, ownsRow_cell hr rfl (u16s_get F1 hkF)⟩
                have hb0 := cnt_bd F0 k (F1.getD k 0)
                have hb1 := cnt_bd F1 k (F1.getD k 0)
                have hb2 := cnt_bd F2 k (F1.getD k 0)
                have hb3 := cnt_bd F0 F0.length (F1.getD k 0)
                have hb4 := cnt_bd F1 F1.length (F1.getD k 0)
                have hm3 := HLN.out
                have hlk := hI.look (F1.getD k 0)
                obtain ⟨cc, hcc⟩ : ∃ cc : Int, cnt F0 F0.length (F1.getD k 0) - cnt F1 k (F1.getD k 0) = cc := ⟨_, rfl⟩
                have hcb : -200 ≤ cc ∧ cc ≤ 200 := by omega
                rw [hcc] at hlk
                obtain ⟨W7, hr7, hI7⟩ := hI.put HXS.out.1 HXS.out.2.1 HXS.out.2.2 hz (cc - 1)
                have hsu := cnt_succ F1 hkF
                have hfe : (fun b => if b = F1.getD k 0 then cc - 1 else cnt F0 F0.length b - cnt F1 k b) = (fun b => cnt F0 F0.length b - cnt F1 (k + 1) b) := by
                  funext b
                  by_cases e : b = F1.getD k 0
                  · subst e
                    have h1 := hsu (F1.getD k 0)
                    rw [if_pos rfl] at h1
                    rw [if_pos rfl]
                    omega
                  · have h1 := hsu b
                    rw [if_neg e] at h1
                    rw [if_neg e, h1]
                have hI8 : CntI w X5 p jb tb m bg by' ms y M2 (.slice a0 n0 c0) (.slice (some ⟨g, 0, none⟩) n1 c1) (.slice a2 n2 c2) F0 F1 F2 (fun b => cnt F0 F0.length b - cnt F1 (k + 1) b) W7 := by rw [← hfe]; exact hI7
                have HI8 := Lib.hid hI8
                have hwc : wrap64 (cc - 1) = cc - 1 := by unfold wrap64; omega
                have hwi : IntKind.i64.wrap (cc - 1) = cc - 1 := i64_sm (by omega) (by omega)
                have hwk : wrap64 ((k : Int) + 1) = ((k + 1 : Nat) : Int) := by unfold wrap64; have := HHM3.out; omega
                generalize F1.getD k 0 = z at *
                clear hI hI7 hI8 hfe hcc hb0 hb1 hb2 hb3 hb4 hm3 hcb hsu hr
                go_wp2_with fail
                clear hlk hr7 hwc hwi hd hz hkF
                go_roundw
                case rel => exact ⟨k + 1, hlt, by rw [hwk], HI8.out⟩
                case measure => (rw [hwk]; exact meas_lt hlt)
              · obtain rfl : n1 = k := by omega
                have HI := Lib.hid hI
                clear hI hk hlt
                go_wp2_with fail
                obtain ⟨wb, rfl⟩ : ∃ wb : World, wb = wr := ⟨_, rfl⟩
                go_loopw [23] (fun vi wr => ∃ k : Nat, k ≤ n2 ∧ vi = .int .i64 k ∧ CntI w X5 p jb tb m bg by' ms y M2 (.slice a0 n0 c0) (.slice a1 n1 c1) (.slice a2 n2 c2) F0 F1 F2 (fun b => cnt F0 F0.length b - cnt F1 F1.length b - cnt F2 k b) wr) (fun vi _ => n2 - (intOf vi).toNat)
                case atStart => exact ⟨0, Nat.zero_le _, rfl, by (have h := HI.out; rw [show (fun b => cnt F0 F0.length b - cnt F1 F1.length b - cnt F2 0 b) = (fun b => cnt F0 F0.length b - cnt F1 n1 b) from funext (fun b => by rw [cnt_zero, HN.out.2.1]; omega)]; exact h)⟩
                case round =>
                  obtain ⟨k, hk, rfl, hI⟩ := hrel
                  by_cases hlt : k < n2
                  · have hkF : k < F2.length := by have := HN.out; omega
                    have hz := HWF.out.2.2 (F2.getD k 0) (by rw [List.getD_eq_getElem?_getD, List.getElem?_eq_getElem hkF]; exact List.getElem_mem hkF)
                    have hr := hI.r2
                    obtain ⟨g, rfl, hd⟩ : ∃ g, a2 = some ⟨g, 0, none⟩ ∧ wr.cell? ⟨g, k, none⟩ = some (.int .u16 (F2.getD k 0)) := by
                      rcases hr.2 with ⟨e, h0⟩ | ⟨g, cap, cur, e, _⟩
                      · omega
                      · cases e
                        exact ⟨g, rfl, ownsRow_cell hr rfl (u16s_get F2 hkF)⟩
                    have hb0 := cnt_bd F0 k (F2.getD k 0)
                    have hb1 := cnt_bd F1 k (F2.getD k 0)
                    have hb2 := cnt_bd F2 k (F2.getD k 0)
                    have hb3 := cnt_bd F0 F0.length (F2.getD k 0)
                    have hb4 := cnt_bd F1 F1.length (F2.getD k 0)
                    have hm3 := HLN.out
                    have hlk := hI.look (F2.getD k 0)
                    obtain ⟨cc, hcc⟩ : ∃ cc : Int, cnt F0 F0.length (F2.getD k 0) - cnt F1 F1.length (F2.getD k 0) - cnt F2 k (F2.getD k 0) = cc := ⟨_, rfl⟩
                    have hcb : -200 ≤ cc ∧ cc ≤ 200 := by omega
                    rw [hcc] at hlk
                    obtain ⟨W7, hr7, hI7⟩ := hI.put HXS.out.1 HXS.out.2.1 HXS.out.2.2 hz (cc - 1)
                    have hsu := cnt_succ F2 hkF
                    have hfe : (fun b => if b = F2.getD k 0 then cc - 1 else cnt F0 F0.length b - cnt F1 F1.length b - cnt F2 k b) = (fun b => cnt F0 F0.length b - cnt F1 F1.length b - cnt F2 (k + 1) b) := by
                      funext b
                      by_cases e : b = F2.getD k 0
                      · subst e
                        have h1 := hsu (F2.getD k 0)
                        rw [if_pos rfl] at h1
                        rw [if_pos rfl]
                        omega
                      · have h1 := hsu b
                        rw [if_neg e] at h1
                        rw [if_neg e, h1]
                    have hI8 : CntI w X5 p jb tb m bg by' ms y M2 (.slice a0 n0 c0) (.slice a1 n1 c1) (.slice (some ⟨g, 0, none⟩) n2 c2) F0 F1 F2 (fun b => cnt F0 F0.length b - cnt F1 F1.length b - cnt F2 (k + 1) b) W7 := by rw [← hfe]; exact hI7
                    have HI8 := Lib.hid hI8
                    have hwc : wrap64 (cc - 1) = cc - 1 := by unfold wrap64; omega
                    have hwi : IntKind.i64.wrap (cc - 1) = cc - 1 := i64_sm (by omega) (by omega)
                    have hwk : wrap64 ((k : Int) + 1) = ((k + 1 : Nat) : Int) := by unfold wrap64; have := HHM3.out; omega
                    generalize F2.getD k 0 = z at *
                    clear hI hI7 hI8 hfe hcc hb0 hb1 hb2 hb3 hb4 hm3 hcb hsu hr
                    go_wp2_with fail
                    clear hlk hr7 hwc hwi hd hz hkF
                    go_roundw
                    case rel => exact ⟨k + 1, hlt, by rw [hwk], HI8.out⟩
                    case measure => (rw [hwk]; exact meas_lt hlt)
                  · obtain rfl : n2 = k := by omega
                    have HI := Lib.hid hI
                    clear hI hk hlt
                    go_wp2_with fail
                    have hI0 : CntI w X5 p jb tb m bg by' ms y M2 (.slice a0 n0 c0) (.slice a1 n1 c1) (.slice a2 n2 c2) F0 F1 F2 (fun _ => 0) wr := by
                      have h := HI.out
                      have e : (fun b => cnt F0 F0.length b - cnt F1 F1.length b - cnt F2 n2 b) = (fun _ => (0 : Int)) := by
                        funext b
                        have h1 := HCNT.out b
                        rw [← HN.out.2.2, cnt_all, cnt_all, cnt_all]
                        omega
                      rw [e] at h
                      exact h
                    have HI0 := Lib.hid hI0
                    clear hI0 HI
                    obtain ⟨wo, rfl⟩ : ∃ wo : World, wo = wr := ⟨_, rfl⟩
                    go_loopw [24] (fun vi wr => ∃ k : Nat, k ≤ 17 ∧ vi = .int .u16 k ∧ CntI w X5 p jb tb m bg by' ms y M2 (.slice a0 n0 c0) (.slice a1 n1 c1) (.slice a2 n2 c2) F0 F1 F2 (fun _ => 0) wr) (fun vi _ => 17 - (intOf vi).toNat)
                    case atStart => exact ⟨0, by decide, rfl, HI0.out⟩
                    case round =>
                      obtain ⟨k, hk, rfl, hI⟩ := hrel
                      by_cases hlt : k ≤ 16
                      · have dk : decide ((k : Int) ≤ 16) = true := decide_eq_true (by omega)
                        have hlk := hI.look (k : Int)
                        have hwu : IntKind.u16.wrap ((k : Int) + 1) = ((k + 1 : Nat) : Int) := by rw [IntKind.wrap_u16]; omega
                        have HI := Lib.hid hI
                        clear hI
                        go_wp2_with fail
                        go_roundw
                        case rel => exact ⟨k + 1, Nat.succ_le_succ hlt, by first | (rw [hwu]) | rfl, HI.out⟩
                        case measure => (first | (rw [hwu]; exact meas_lt (Nat.lt_succ_of_le hlt)) | exact meas_lt (Nat.lt_succ_of_le hlt))
                      · have dk : decide ((k : Int) ≤ 16) = false := decide_eq_false (by omega)
                        have HI := Lib.hid hI
                        clear hI
                        go_wp2_with fail
                        obtain ⟨wo2, rfl⟩ : ∃ wo2 : World, wo2 = wr := ⟨_, rfl⟩
                        go_loopw [25, 26, 27] (fun vi _ _ wr => ∃ k : Nat, q ≤ k ∧ k ≤ 36 ∧ vi = .int .i64 k ∧ CntI w X5 p jb tb m bg by' ms y M2 (.slice a0 n0 c0) (.slice a1 n1 c1) (.slice a2 n2 c2) F0 F1 F2 (fun _ => 0) wr) (fun vi _ _ _ => 36 - (intOf vi).toNat)
                        case atStart => exact ⟨q, Nat.le_refl _, HQ36.out, rfl, HI.out⟩
                        case round =>
                          obtain ⟨r, hqr, hr36, rfl, hI⟩ := hrel
                          by_cases hlt2 : r < 36
                          · have dr : decide ((r : Int) < 36) = true := decide_eq_true (by omega)
                            have hget := bget_any hI.tj geoN_small ⟨mays_small, by decide, HOK.out.2.2.1, HOK.out.2.1⟩ HOK.out.1 HOK.out.2.2.2.2.1 (fun hn => by rw [HOK.out.2.2.2.1 hn]; rfl) r hlt2
                            rw [HPG.out r hqr] at hget
                            unfold gv ic at hget
                            have hgi := hI.ig
                            have hyi := hI.iy
                            unfold gvc at hgi
                            unfold ic at hyi
                            have g0 := cl_of hgi 0
                            have g1 := cl_of hgi 1
                            have g2 := cl_of hgi 2
                            have yy0 := cl_of hyi 0
                            have yy1 := cl_of hyi 1
                            have yy2 := cl_of hyi 2
                            have yy3 := cl_of hyi 3
                            have yy4 := cl_of hyi 4
                            have yy5 := cl_of hyi 5
                            have yy6 := cl_of hyi 6
                            have yy7 := cl_of hyi 7
                            have HG := Lib.hid hget
                            have HI2 := Lib.hid hI
                            have hwk : wrap64 ((r : Int) + 1) = ((r + 1 : Nat) : Int) := by unfold wrap64; omega
                            clear hget hgi hyi hI
                            go_wp2_with fail
                            refine HG.out.mono ?_
                            rintro e w7 ⟨rfl, hB7⟩
                            have H7 := Lib.hid (HI2.out.of hB7)
                            clear hB7 HG g0 g1 g2 yy0 yy1 yy2 yy3 yy4 yy5 yy6 yy7
                            go_wp2_with fail
                            go_roundw
                            case rel => exact ⟨r + 1, Nat.le_succ_of_le hqr, hlt2, by first | (rw [hwk]) | rfl, H7.out⟩
                            case measure => (first | (rw [hwk]; exact meas_lt hlt2) | exact meas_lt hlt2)
                          · have dr : decide ((r : Int) < 36) = false := decide_eq_false (by omega)
                            have HI2 := Lib.hid hI
                            clear hI
                            go_wp2_with fail
                            refine (alive09_any _).mono ?_
                            rintro e w9 ⟨rfl, hB9⟩
                            have HB9 := Lib.hid (bt HI2.out.tj.j.dev.below hB9)
                            clear hB9
                            go_wp2_with fail
                            go_ret
                            exact ⟨rfl, HB9.out⟩
theorem cuts_go {w : World} (v : Value) (ls : List St9) (pa : Int) (hl : Sl9 w v ls) (hp : (Lit.int .u8 pa).wf = true) : Calls Tryz.prog 5 #[v, .int .u8 pa] w fun e w' => e = .returned (.bool true) ∧ Below w.heap.size w w' := cuts_walk v ls hl pa (u8_wf hp)
end
end Go.Proofs.YtjjphcnoegaimaaGreat
