/- Package journal: recover_: what was committed, and is not done, is laid. -/
import Derived.Test.YtjjphcnoegaimaaJKept
namespace Go.Proofs.Ytjjphcnoegaimaa
open Go.RowKit Go.Shelf Go.Maps
set_option maxRecDepth 20000
set_option linter.unusedVariables false

/-- The steps of a recovery. -/
def recoverS (fr g : Nat) (l : Puts) : List (List DOp) := [layO l, [.fl], [.wr fr (headB g 0)], [.fl]]
theorem recoverS_flat (fr g : Nat) (l : Puts) : (recoverS fr g l).flatten = recoverO fr g l := by simp [recoverS, recoverO]
def recId (k : Nat) : Nat := if k = 0 then 73 else if k = 2 then 74 else 19
def recAd (wb p k : Nat) : Nat := if k = 0 ∨ k = 2 then wb else p
def fnr (wb p k : Nat) : Value := .func (.func (recId k)) #[.pointer (some ⟨recAd wb p k, 0, none⟩)] #[]

section
variable {w0 w W W' W1 : World} {X : Nat → Prop} {p jb N B fr n g r : Nat} {s : DS}
theorem run_recover {wb rb g' cap : Nat} {lv : Value} (l : Puts) (h : JS w0 X p jb N B fr n g r s W) (hw : WO W wb jb g' lv) (hx : X wb) (hl : SlP w0 X W lv (zP l)) (hrb : W.heap[rb]? = some (.cells #[fnr wb p 0, fnr wb p 1, fnr wb p 2, fnr wb p 3] 35 (0, 0))) (hxr : X rb)
    (hpn : ∀ x ∈ l, x.1 < N ∧ x.2.size = 64) (hl64 : l.length < 65536) (hfr : fr < N) (hB : B + wcount (recoverO fr g' l) ≤ 90000) (hg : g' < 18446744073709551616) :
    Calls Try.prog 70 #[.slice (some ⟨rb, 0, none⟩) 4 cap] W (RunPost (StK w0 X p jb N B fr n g r s (recoverS fr g' l) W 4) (NoK w0 X p jb N B fr n g r s (recoverS fr g' l) W)) := by
  obtain ⟨ao, lcap, rfl, hval⟩ := hl
  rw [zP_length] at hw
  have hB' : ∀ k, B + wcount (preK (recoverS fr g' l) k) ≤ 90000 := fun k => by
    have := wcount_pre_le (recoverS fr g' l) k
    rw [recoverS_flat] at this
    omega
  have hBs : ∀ k (hk : k < (recoverS fr g' l).length), B + wcount (preK (recoverS fr g' l) k) + wcount (recoverS fr g' l)[k] ≤ 90000 := fun k hk => by
    have := hB' (k + 1)
    rw [preK_succ _ _ hk, wcount_append] at this
    omega
  have hl' : SlP w0 X W (.slice ao l.length lcap) (zP l) := ⟨ao, lcap, by rw [zP_length], hval⟩
  refine run_any rb cap 4 recId (recAd wb p) _ _ (by decide) ?_ ?_ ?_ ⟨h, rfl, Kb.refl _ _ _⟩
  · intro k hk
    have : k = 0 ∨ k = 1 ∨ k = 2 ∨ k = 3 := by omega
    rcases this with rfl | rfl | rfl | rfl <;> simp [recId]
  · intro k W' hk hs
    have hc := fun i => cl_of ((hs.2.2 rb (.inr hxr)).trans hrb) i
    rw [hc k]
    have : k = 0 ∨ k = 1 ∨ k = 2 ∨ k = 3 := by omega
    rcases this with rfl | rfl | rfl | rfl <;> rfl
  · intro k W' hk hs
    have hs' := hs
    obtain ⟨hj, hok, hkb⟩ := hs'
    have hw' : WO W' wb jb g' (.slice ao l.length lcap) := hw.kb hkb hx
    have hl2 := hl'.kb hkb
    have hkl : k < (recoverS fr g' l).length := hk
    have hbs := hBs k hkl
    refine Calls.mono ?_ (fun e W2 hp => step_post hkl hs hp)
    have : k = 0 ∨ k = 1 ∨ k = 2 ∨ k = 3 := by omega
    rcases this with rfl | rfl | rfl | rfl
    · refine lay_any l hj hw' hx hl2 ?_ hpn
      have e : wcount (recoverS fr g' l)[0] = l.length := wcount_lay l
      omega
    · exact flush_post hj (hB' 1)
    · exact done_any hj hw' hx hbs hg hl64 hfr
    · exact flush_post hj (hB' 3)

/-- What run leaves of a recovery. -/
def RvRun (w0 : World) (X : Nat → Prop) (p jb N B fr n g r : Nat) (s : DS) (l : Puts) (g' : Nat) (W : World) (e : Ending) (W' : World) : Prop :=
  ((runO s (recoverO fr g' l)).2 = true ∧ e = .returned (.int .i64 0) ∧ JS w0 X p jb N (B + wcount (recoverO fr g' l)) fr n g r (runO s (recoverO fr g' l)).1 W' ∧ Kb w0 X W W') ∨
  ((runO s (recoverO fr g' l)).2 = false ∧ e = .returned (.int .i64 30) ∧ JS w0 X p jb N (B + wcount (recoverO fr g' l)) fr n g r (runO s (recoverO fr g' l)).1 W' ∧ Kb w0 X W W')
theorem recover_run {lv : Value} (l : Puts) {Y : Nat → Prop} (hY : ∀ k, X k → Y k) (hXj : X jb) {wb g' : Nat} {W2 : World} (h : JS w0 Y p jb N B fr n g r s W2) (hl : SlP w0 Y W2 lv (zP l)) (hpn : ∀ x ∈ l, x.1 < N ∧ x.2.size = 64) (hl64 : l.length < 65536) (hfr : fr < N) (hg : g' < 18446744073709551616) (hB : B + wcount (recoverO fr g' l) ≤ 90000) (hwb : Y wb) (hwo : WO W2 wb jb g' lv) (hkb : Kb w0 X W W2) :
    Calls Try.prog 70 #[.slice (some ⟨W2.heap.size, 0, none⟩) 4 4] (W2.alloc (.cells #[.func (.func 73) #[.pointer (some ⟨wb, 0, none⟩)] #[], .func (.func 19) #[.pointer (some ⟨p, 0, none⟩)] #[], .func (.func 74) #[.pointer (some ⟨wb, 0, none⟩)] #[], .func (.func 19) #[.pointer (some ⟨p, 0, none⟩)] #[]] 35)) (RvRun w0 X p jb N B fr n g r s l g' W) := by
  have hB3 := bnew W2 (.cells #[.func (.func 73) #[.pointer (some ⟨wb, 0, none⟩)] #[], .func (.func 19) #[.pointer (some ⟨p, 0, none⟩)] #[], .func (.func 74) #[.pointer (some ⟨wb, 0, none⟩)] #[], .func (.func 19) #[.pointer (some ⟨p, 0, none⟩)] #[]] 35)
  have hj := h.take hB3
  have hsl := (hl.kb (h.kb hB3)).less (Y := fun k => Y k ∨ W2.heap.size ≤ k ∧ k < (W2.alloc (.cells #[.func (.func 73) #[.pointer (some ⟨wb, 0, none⟩)] #[], .func (.func 19) #[.pointer (some ⟨p, 0, none⟩)] #[], .func (.func 74) #[.pointer (some ⟨wb, 0, none⟩)] #[], .func (.func 19) #[.pointer (some ⟨p, 0, none⟩)] #[]] 35)).heap.size) (fun _ h => .inl h)
  refine (run_recover l hj (blk_old hwo _) (.inl hwb) hsl (hp_new W2 _ rfl) (.inr ⟨Nat.le_refl _, by simp⟩) hpn hl64 hfr hB hg).mono ?_
  have hk : ∀ {W'}, Kb w0 (fun k => Y k ∨ W2.heap.size ≤ k ∧ k < (W2.alloc (.cells #[.func (.func 73) #[.pointer (some ⟨wb, 0, none⟩)] #[], .func (.func 19) #[.pointer (some ⟨p, 0, none⟩)] #[], .func (.func 74) #[.pointer (some ⟨wb, 0, none⟩)] #[], .func (.func 19) #[.pointer (some ⟨p, 0, none⟩)] #[]] 35)).heap.size) (W2.alloc (.cells #[.func (.func 73) #[.pointer (some ⟨wb, 0, none⟩)] #[], .func (.func 19) #[.pointer (some ⟨p, 0, none⟩)] #[], .func (.func 74) #[.pointer (some ⟨wb, 0, none⟩)] #[], .func (.func 19) #[.pointer (some ⟨p, 0, none⟩)] #[]] 35)) W' → Kb w0 X W W' := fun c => hkb.t (((h.kb hB3).t (c.less (fun _ h => .inl h))).less hY)
  rintro e W' (⟨rfl, a, b, c⟩ | ⟨rfl, a, b, c⟩)
  · have e8 : preK (recoverS fr g' l) 4 = recoverO fr g' l := recoverS_flat fr g' l
    rw [e8] at a b
    exact .inl ⟨b, rfl, a.less (fun _ h => .inl (hY _ h)) hXj, hk c⟩
  · rw [recoverS_flat] at a b
    exact .inr ⟨b, rfl, a.less (fun _ h => .inl (hY _ h)) hXj, hk c⟩

theorem js_readb_down (h : JS w0 X p jb N B fr n g r s W) (hd : s.dead = true) (i : Int) : Calls Try.prog 20 #[.pointer (some ⟨p, 0, none⟩), .int .i64 i] W fun e W' => e = .returned (.tuple #[.string ByteArray.empty, .int .i64 30]) ∧ Below W.heap.size W W' := by
  obtain ⟨hb, hc, m, L, h1, h2⟩ := h.dev.dev
  exact dev_read_down h1 hd i
set_option maxHeartbeats 4000000 in
theorem recover_down (h : JS w0 X p jb N B fr n g r s W) (hd : s.dead = true) (hfr : fr < N) : Calls Try.prog 68 #[.pointer (some ⟨jb, 0, none⟩)] W fun e W' => e = .returned (.int .i64 30) ∧ Below W.heap.size W W' := by
  have J0 := cl_of h.obj 0
  have J1 := cl_of h.obj 1
  have HH := Lib.hid h
  clear h
  go_enter Try.func68, Try.ntmps68
  go_wp2_with fail
  first | (go_region_held3 (fun W2 => W2.cell? ⟨jb, 0, none⟩ = some (.pointer (some ⟨p, 0, none⟩)) ∧ W2.cell? ⟨jb, 1, none⟩ = some (.int .i64 fr)) (first | exact ⟨J0, J1⟩ | assumption | exact ⟨cl_of (JS.obj (by assumption)) 0, cl_of (JS.obj (by assumption)) 1⟩) (first | (go_at_call 20; ((with_reducible refine (js_readb_down HH.out.drew hd _).mono ?_); rintro e w3 ⟨rfl, hB3⟩; have hj3 := HH.out.drew.of hB3)))) | fail
  first | (rename_i hK; refine hK _ _ ?_; clear hK) | (rename_i hK _; refine hK _ _ ?_; clear hK) | (rename_i hK _ _; refine hK _ _ ?_; clear hK)
  have HB3 := Lib.hid (bt (Below.refl W.heap.size W).drew hB3)
  clear hj3 hB3 J0 J1
  go_wp2_with fail
  go_ret
  exact ⟨rfl, HB3.out⟩
/-- What recover_ leaves where there is nothing to lay. -/
def RnPost (w0 : World) (X : Nat → Prop) (p jb N B fr n g r : Nat) (s : DS) (W : World) (e : Ending) (W' : World) : Prop := e = .returned (.int .i64 0) ∧ JS w0 X p jb N B fr n g r s W' ∧ Kb w0 (fun k => X k ∧ k ≠ jb) W W'
set_option maxHeartbeats 4000000 in
theorem recover_none (h : JS w0 X p jb N B fr n g r s W) (hd : s.dead = false) (hfr : fr < N) (hn : n ≤ 4096) {m g1 c1 : Nat} (hm : IsMost n m) (hrd : readB (newest s fr) = (g1, c1)) (hc : c1 = 0 ∨ m < c1) :
    Calls Try.prog 68 #[.pointer (some ⟨jb, 0, none⟩)] W (RnPost w0 X p jb N B fr n g1 r s W) := by
  have J0 := cl_of h.obj 0
  have J1 := cl_of h.obj 1
  have HH := Lib.hid h
  have hrx : ∀ W, Calls Try.prog 90 #[.string (newest s fr)] W fun e w' => e = .returned (.tuple #[.int .u64 g1, .int .i64 c1]) ∧ Below W.heap.size W w' := fun W => by
    have := jread_any (newest s fr) (HH.out.ok.newest hfr) W
    rw [hrd] at this
    exact this
  have HR := Lib.hid hrx
  have HM := Lib.hid hm
  have hrd1 : ∀ W2, JS w0 X p jb N B fr n g r s W2 → Calls Try.prog 20 #[.pointer (some ⟨p, 0, none⟩), .int .i64 fr] W2 fun e W' => e = .returned (.tuple #[.string (newest s fr), .int .i64 0]) ∧ Below W2.heap.size W2 W' := fun W2 h2 => js_readb h2 hd fr hfr
  have HD := Lib.hid hrd1
  generalize newest s fr = b0 at *
  clear h hrx hrd hm hrd1
  go_enter Try.func68, Try.ntmps68
  go_wp2_with fail
  first | (go_region_held3 (fun W2 => W2.cell? ⟨jb, 0, none⟩ = some (.pointer (some ⟨p, 0, none⟩)) ∧ W2.cell? ⟨jb, 1, none⟩ = some (.int .i64 fr)) (first | exact ⟨J0, J1⟩ | assumption | exact ⟨cl_of (JS.obj (by assumption)) 0, cl_of (JS.obj (by assumption)) 1⟩) (first | (go_at_call 20; ((with_reducible refine (HD.out _ HH.out.drew).mono ?_); rintro e w3 ⟨rfl, hB3⟩; have hj3 := HH.out.drew.of hB3)))) | fail
  first | (rename_i hK; refine hK _ _ ?_; clear hK) | (rename_i hK _; refine hK _ _ ?_; clear hK) | (rename_i hK _ _; refine hK _ _ ?_; clear hK)
  have HB3 := Lib.hid (bt (Below.refl W.heap.size W).drew hB3)
  clear hj3 hB3 J0 J1
  go_wp2_with fail
  refine (HR.out _).mono ?_
  rintro e w4 ⟨rfl, hB4⟩
  have hj4 := HH.out.of (bt HB3.out hB4)
  have q3 := cl_of hj4.obj 3
  have f3 := fz_of hj4.obj 3
  have HJ5 := Lib.hid (hj4.setGen g1)
  have HK5 : Hid (Kb w0 (fun k => X k ∧ k ≠ jb) W (w4.setCell ⟨jb, 3, none⟩ (.int .u64 g1))) := Lib.hid (fun k hk => (kb_set 3 _ k (hk.elim (fun e e' => by have := HH.out.ge; omega) (fun h => h.2))).trans (HH.out.kb (bt HB3.out hB4) k (hk.imp id (fun h => h.1))))
  clear hj4 hB4
  rcases hc with rfl | hc
  · go_wp2_with fail
    go_ret
    exact ⟨rfl, HJ5.out, HK5.out⟩
  · have e0 : ((c1 : Int) == 0) = false := by simp; omega
    have e1 : decide (m < c1) = true := decide_eq_true hc
    go_wp2_with fail
    refine (jmax_any HJ5.out HM.out (by omega)).mono ?_
    rintro e w6 ⟨rfl, rfl⟩
    go_wp2_with fail
    go_ret
    exact ⟨rfl, HJ5.out, HK5.out⟩

/-- What recover_ leaves where it lays. -/
def RcPost (w0 : World) (X : Nat → Prop) (p jb N B fr n g1 c1 : Nat) (s : DS) (l : Puts) (W : World) (e : Ending) (W' : World) : Prop :=
  ((runO s (recoverO fr g1 l)).2 = true ∧ e = .returned (.int .i64 0) ∧ JS w0 X p jb N (B + wcount (recoverO fr g1 l)) fr n g1 c1 (runO s (recoverO fr g1 l)).1 W' ∧ Kb w0 (fun k => X k ∧ k ≠ jb) W W') ∨
  ((runO s (recoverO fr g1 l)).2 = false ∧ e = .returned (.int .i64 30) ∧ JS w0 X p jb N (B + wcount (recoverO fr g1 l)) fr n g1 c1 (runO s (recoverO fr g1 l)).1 W' ∧ Kb w0 (fun k => X k ∧ k ≠ jb) W W')
theorem recover_mid {W5 w6 : World} {ao : Option Addr} {cap g1 c1 : Nat} {l : Puts} (h5 : JS w0 X p jb N B fr n g1 r s W5) (hk5 : Kb w0 (fun k => X k ∧ k ≠ jb) W W5) (hk : KpI2 W5 l (.slice ao l.length cap) w6) (hpn : ∀ x ∈ l, x.1 < N ∧ x.2.size = 64) (hl64 : l.length < 65536) (hfr : fr < N) (hg : g1 < 18446744073709551616) (hB : B + wcount (recoverO fr g1 l) ≤ 90000) {W2 : World}
    (e : W2 = ((w6.alloc (.cells #[.pointer (some ⟨jb, 0, none⟩), .int .u64 g1, .slice ao l.length cap] 116)).setCell ⟨jb, 4, none⟩ (.int .i64 c1)).drew) :
    W2.cell? ⟨jb, 0, none⟩ = some (.pointer (some ⟨p, 0, none⟩)) ∧ Calls Try.prog 70 #[.slice (some ⟨W2.heap.size, 0, none⟩) 4 4] (W2.alloc (.cells #[.func (.func 73) #[.pointer (some ⟨w6.heap.size, 0, none⟩)] #[], .func (.func 19) #[.pointer (some ⟨p, 0, none⟩)] #[], .func (.func 74) #[.pointer (some ⟨w6.heap.size, 0, none⟩)] #[], .func (.func 19) #[.pointer (some ⟨p, 0, none⟩)] #[]] 35)) (RcPost w0 X p jb N B fr n g1 c1 s l W) := by
  have hb6 := bal hk.below (.cells #[.pointer (some ⟨jb, 0, none⟩), .int .u64 g1, .slice ao l.length cap] 116)
  have hjlt := blk_lt h5.obj
  have hs6 := hk.below.size
  have h6 := (h5.take hb6)
  have h7 := (h6.setRec c1).drew
  rw [← e] at h7
  have hsl0 := hk.slp (X := fun _ => False) (w0 := w0) h5.dev.below.size
  have hge := h5.ge
  have hsl1 : SlP w0 (fun k => False ∨ W5.heap.size ≤ k ∧ k < w6.heap.size) W2 (.slice ao l.length cap) (zP l) := by
    refine hsl0.kb ?_
    intro k hk'
    have hkl : k < w6.heap.size := hk'.elim (fun e' => Nat.lt_of_lt_of_le e' (Nat.le_trans h5.dev.below.size hs6)) (fun e' => e'.elim (fun x => x.elim) (fun x => x.2))
    have hkj : k ≠ jb := hk'.elim (fun e' => by omega) (fun e' => e'.elim (fun x => x.elim) (fun x => by omega))
    rw [e]
    exact (kb_set 4 _ k hkj).trans (hp_old w6 _ hkl)
  have hwo : WO W2 w6.heap.size jb g1 (.slice ao l.length cap) := by
    rw [e]
    exact (kb_set 4 _ w6.heap.size (by omega)).trans (hp_new w6 _ rfl)
  have hkw : Kb w0 (fun k => X k ∧ k ≠ jb) W5 W2 := by
    intro k hk'
    have hkj : k ≠ jb := hk'.elim (fun e' => by omega) (fun e' => e'.2)
    have hkl : k < W5.heap.size := hk'.elim (fun e' => Nat.lt_of_lt_of_le e' h5.dev.below.size) (fun e' => h5.dev.lt k e'.1)
    rw [e]
    exact (kb_set 4 _ k hkj).trans (hb6.block k hkl)
  refine ⟨cl_of h7.obj 0, ?_⟩
  refine (recover_run (X := X) (W := W2) l (fun _ h => .inl h) h5.own h7 (hsl1.less (fun k h => h.elim (fun x => x.elim) (fun x => .inr ⟨x.1, by simp; omega⟩))) hpn hl64 hfr hg hB (.inr ⟨hs6, by simp⟩) hwo (Kb.refl _ _ _)).mono ?_
  rintro e2 W' (⟨a1, a2, a3, a4⟩ | ⟨a1, a2, a3, a4⟩)
  · exact .inl ⟨a1, a2, a3, (hk5.t hkw).t (a4.less (fun _ h => h.1))⟩
  · exact .inr ⟨a1, a2, a3, (hk5.t hkw).t (a4.less (fun _ h => h.1))⟩

set_option maxHeartbeats 8000000 in
theorem recover_do (h : JS w0 X p jb N B fr n g r s W) (hd : s.dead = false) (hfr : fr + n ≤ N) (hN : N ≤ 4096) {m g1 c1 : Nat} (hm : IsMost n m) (hrd : readB (newest s fr) = (g1, c1)) (hg1 : g1 < 18446744073709551616) (hc0 : c1 ≠ 0) (hcm : c1 ≤ m) (l : Puts) (hl : keptP (newest s) fr c1 = l) (hpn : ∀ x ∈ l, x.1 < N ∧ x.2.size = 64) (hB : B + wcount (recoverO fr g1 l) ≤ 90000) :
    Calls Try.prog 68 #[.pointer (some ⟨jb, 0, none⟩)] W (RcPost w0 X p jb N B fr n g1 c1 s l W) := by
  have hm1 := hm.1
  have hll : l.length = c1 := by rw [← hl]; simp [keptP]
  have hcp : 1 + places c1 + c1 ≤ n := by
    have := places_mono hcm
    omega
  have J0 := cl_of h.obj 0
  have J1 := cl_of h.obj 1
  have HH := Lib.hid h
  have hrx : ∀ W, Calls Try.prog 90 #[.string (newest s fr)] W fun e w' => e = .returned (.tuple #[.int .u64 g1, .int .i64 c1]) ∧ Below W.heap.size W w' := fun W => by
    have := jread_any (newest s fr) (HH.out.ok.newest (by omega)) W
    rw [hrd] at this
    exact this
  have HR := Lib.hid hrx
  have HM := Lib.hid hm
  have hrd1 : ∀ W2, JS w0 X p jb N B fr n g r s W2 → Calls Try.prog 20 #[.pointer (some ⟨p, 0, none⟩), .int .i64 fr] W2 fun e W' => e = .returned (.tuple #[.string (newest s fr), .int .i64 0]) ∧ Below W2.heap.size W2 W' := fun W2 h2 => js_readb h2 hd fr (by omega)
  have HD := Lib.hid hrd1
  have hkp : ∀ W2, JS w0 X p jb N B fr n g1 r s W2 → Calls Try.prog 91 #[.pointer (some ⟨jb, 0, none⟩), .int .i64 c1] W2 fun e W' => ∃ v, e = .returned (.tuple #[v, .int .i64 0]) ∧ KpI2 W2 l v W' := fun W2 h2 => by
    rw [← hl]
    exact kept_any h2 hd c1 hcp hfr hN
  have HKP := Lib.hid hkp
  have e0 : ((c1 : Int) == 0) = false := by simp; omega
  have e1 : decide (m < c1) = false := decide_eq_false (by omega)
  generalize newest s fr = b0 at *
  have HLL := Lib.hid hll
  have hl6 : l.length < 65536 := by omega
  clear h hrx hrd hm hrd1 hkp hl hll
  go_enter Try.func68, Try.ntmps68
  go_wp2_with fail
  first | (go_region_held3 (fun W2 => W2.cell? ⟨jb, 0, none⟩ = some (.pointer (some ⟨p, 0, none⟩)) ∧ W2.cell? ⟨jb, 1, none⟩ = some (.int .i64 fr)) (first | exact ⟨J0, J1⟩ | assumption | exact ⟨cl_of (JS.obj (by assumption)) 0, cl_of (JS.obj (by assumption)) 1⟩) (first | (go_at_call 20; ((with_reducible refine (HD.out _ HH.out.drew).mono ?_); rintro e w3 ⟨rfl, hB3⟩; have hj3 := HH.out.drew.of hB3)))) | fail
  first | (rename_i hK; refine hK _ _ ?_; clear hK) | (rename_i hK _; refine hK _ _ ?_; clear hK) | (rename_i hK _ _; refine hK _ _ ?_; clear hK)
  have HB3 := Lib.hid (bt (Below.refl W.heap.size W).drew hB3)
  clear hj3 hB3 J0 J1
  go_wp2_with fail
  refine (HR.out _).mono ?_
  rintro e w4 ⟨rfl, hB4⟩
  have hj4 := HH.out.of (bt HB3.out hB4)
  have q3 := cl_of hj4.obj 3
  have f3 := fz_of hj4.obj 3
  obtain ⟨W5, hW5⟩ : ∃ W5, w4.setCell ⟨jb, 3, none⟩ (.int .u64 g1) = W5 := ⟨_, rfl⟩
  have hj5 := hj4.setGen g1
  have hk5 : Kb w0 (fun k => X k ∧ k ≠ jb) W (w4.setCell ⟨jb, 3, none⟩ (.int .u64 g1)) := fun k hk => (kb_set 3 _ k (hk.elim (fun e e' => by have := HH.out.ge; omega) (fun h => h.2))).trans (HH.out.kb (bt HB3.out hB4) k (hk.imp id (fun h => h.1)))
  rw [hW5] at hj5 hk5
  have HW5 := Lib.hid hW5
  have HJ5 := Lib.hid hj5
  have HK5 := Lib.hid hk5
  clear hj4 hB4 hW5 hj5 hk5
  go_wp2_with fail
  rw [HW5.out]
  refine (jmax_any HJ5.out HM.out (by omega)).mono ?_
  rintro e w6 ⟨rfl, rfl⟩
  clear q3 f3
  go_wp2_with fail
  refine (HKP.out _ HJ5.out).mono ?_
  rintro e w6 ⟨v, rfl, hkp⟩
  obtain ⟨ao, cap, rfl⟩ : ∃ ao cap, v = .slice ao l.length cap := by
    rcases hkp.row.2 with ⟨rfl, h0⟩ | ⟨g, c, cur, rfl, _⟩
    · rw [h0]; exact ⟨_, _, rfl⟩
    · exact ⟨_, _, rfl⟩
  have hj6 := blk_old (bblk hkp.below HJ5.out.obj) (.cells #[.pointer (some ⟨jb, 0, none⟩), .int .u64 g1, .slice ao l.length cap] 116)
  have q4 := cl_of hj6 4
  have f4 := fz_of hj6 4
  have hmd : ∀ W2, W2 = ((w6.alloc (.cells #[.pointer (some ⟨jb, 0, none⟩), .int .u64 g1, .slice ao l.length cap] 116)).setCell ⟨jb, 4, none⟩ (.int .i64 c1)).drew → _ := fun W2 e => recover_mid HJ5.out HK5.out hkp hpn hl6 (by omega) hg1 hB e
  have HMD := Lib.hid hmd
  clear hj6 hkp hmd
  go_wp2_with fail
  refine wp_region_tail 14 (by kernel_rfl) (by kernel_rfl) (fun W2 HW2 => ?_)
  obtain ⟨j0, hcr⟩ := HMD.out W2 HW2.out
  have HCR := Lib.hid hcr
  clear hcr q4 f4
  simp only [List.take_succ_cons, List.take_zero, List.drop_succ_cons, List.drop_zero]
  repeat still_step
  refine wpStill_nil ?_
  go_wp2_with fail
  refine HCR.out.mono ?_
  rintro e w7 (⟨hok, rfl, h7, k7⟩ | ⟨hok, rfl, h7, k7⟩)
  · have HO : Hid _ := Lib.hid (⟨hok, h7, k7⟩ : _ ∧ _ ∧ _)
    clear hok h7 k7
    go_wp2_with fail
    go_ret
    exact .inl ⟨HO.out.1, rfl, HO.out.2⟩
  · have HO : Hid _ := Lib.hid (⟨hok, h7, k7⟩ : _ ∧ _ ∧ _)
    clear hok h7 k7
    go_wp2_with fail
    go_ret
    exact .inr ⟨HO.out.1, rfl, HO.out.2⟩
end
end Go.Proofs.Ytjjphcnoegaimaa
