/- Package journal: Open. -/
import Derived.Test.YtjjphcnoegaimaaJRecover
namespace Go.Proofs.Ytjjphcnoegaimaa
open Go.RowKit Go.Shelf Go.Maps
set_option maxRecDepth 20000
set_option linter.unusedVariables false

/-- A new journal's block. -/
def jnew (p fr n : Nat) : Obj := .cells #[.pointer (some ⟨p, 0, none⟩), .int .i64 fr, .int .i64 n, .int .u64 0, .int .i64 0] 112
def OpPost (jb : Nat) (Yes No : World → Prop) (e : Ending) (W' : World) : Prop := (e = .returned (.tuple #[.pointer (some ⟨jb, 0, none⟩), .int .i64 0]) ∧ Yes W') ∨ (e = .returned (.tuple #[.pointer none, .int .i64 30]) ∧ No W')
section
variable {w0 w W W' W1 : World} {X : Nat → Prop} {p N B fr n : Nat} {s : DS}
theorem o_len (h : DvO w0 X p s W) (hN : s.hard.length = N) : Calls Try.prog 67 #[.pointer (some ⟨p, 0, none⟩)] W fun e W' => e = .returned (.int .i64 N) ∧ W = W' := by
  rw [← hN]
  obtain ⟨hb, hc, m, L, h1, h2⟩ := h.dev
  exact dev_len h1
theorem open_js (h : DvO w0 X p s W) (ok : Okd N B s) : JS w0 (fun k => X k ∨ W.heap.size ≤ k ∧ k < (W.alloc (jnew p fr n)).heap.size) p W.heap.size N B fr n 0 0 s (W.alloc (jnew p fr n)) :=
  ⟨h.take (bnew _ _), ok, hp_new _ _ rfl, .inr ⟨Nat.le_refl _, by simp⟩, h.below.size⟩
set_option maxHeartbeats 4000000 in
theorem open_with (h : DvO w0 X p s W) (hN : s.hard.length = N) (h4 : 4 ≤ n) (h256 : n ≤ 256) (hfr : fr + n ≤ N) (hN2 : N ≤ 4096) {Yes No : World → Prop} (hrec : Calls Try.prog 68 #[.pointer (some ⟨W.heap.size, 0, none⟩)] (W.alloc (jnew p fr n)) (RunPost Yes No)) :
    Calls Try.prog 32 #[.pointer (some ⟨p, 0, none⟩), .int .i64 fr, .int .i64 n] W (OpPost W.heap.size Yes No) := by
  have hc := o_len h hN
  have HC := Lib.hid hc
  have HR := Lib.hid hrec
  unfold jnew at HR
  have d1 : decide ((n : Int) < 4) = false := decide_eq_false (by omega)
  have d2 : decide ((n : Int) > 256) = false := decide_eq_false (by omega)
  have d3 : decide ((fr : Int) < 0) = false := decide_eq_false (by omega)
  have d4 : decide ((fr : Int) > (N : Int) - (n : Int)) = false := decide_eq_false (by omega)
  have d5 : decide ((N : Int) - (n : Int) < (fr : Int)) = false := decide_eq_false (by omega)
  clear hc hrec h
  go_enter Try.func32, Try.ntmps32
  go_wp2_with fail
  refine HC.out.mono ?_
  rintro e w1 ⟨rfl, rfl⟩
  go_wp2_with fail
  refine HR.out.mono ?_
  rintro e w2 (⟨rfl, h2⟩ | ⟨rfl, h2⟩)
  · go_wp2_with fail
    go_ret2
    exact .inl ⟨rfl, h2⟩
  · go_wp2_with fail
    go_ret2
    exact .inr ⟨rfl, h2⟩
set_option maxHeartbeats 2000000 in
theorem open_nil (a b : Int) (W : World) : Calls Try.prog 32 #[.pointer none, .int .i64 a, .int .i64 b] W fun e W' => e = .returned (.tuple #[.pointer none, .int .i64 1]) ∧ W = W' := by
  go_enter Try.func32, Try.ntmps32
  go_wp2_with fail
  go_ret2
  exact ⟨rfl, rfl⟩

/-- Open where nothing is to lay. -/
theorem open_none (h : DvO w0 X p s W) (ok : Okd N B s) (hd : s.dead = false) (h4 : 4 ≤ n) (h256 : n ≤ 256) (hfr : fr + n ≤ N) (hN2 : N ≤ 4096) {m g1 c1 : Nat} (hm : IsMost n m) (hrd : readB (newest s fr) = (g1, c1)) (hc : c1 = 0 ∨ m < c1) :
    Calls Try.prog 32 #[.pointer (some ⟨p, 0, none⟩), .int .i64 fr, .int .i64 n] W fun e W' => e = .returned (.tuple #[.pointer (some ⟨W.heap.size, 0, none⟩), .int .i64 0]) ∧ JS w0 (fun k => X k ∨ k = W.heap.size) p W.heap.size N B fr n g1 0 s W' ∧ Kb w0 X W W' := by
  have hj := open_js (fr := fr) (n := n) h ok
  have hrec := recover_none hj hd (by omega) (by omega) hm hrd hc
  have hX : ∀ k, X k → k < W.heap.size := h.lt
  refine (open_with (Yes := fun W' => JS w0 (fun k => X k ∨ k = W.heap.size) p W.heap.size N B fr n g1 0 s W' ∧ Kb w0 X W W') (No := fun _ => False) h ok.hard h4 h256 hfr hN2 (hrec.mono ?_)).mono ?_
  · rintro e W' ⟨rfl, a, b⟩
    refine .inl ⟨rfl, a.less (fun k hk => hk.imp id (fun e => by subst e; exact ⟨Nat.le_refl _, by simp⟩)) (.inr rfl), (h.kbelow (bnew _ _)).t (b.less (fun k hk => ⟨.inl hk, fun e => by have := hX k hk; omega⟩))⟩
  · rintro e W' (⟨rfl, a⟩ | ⟨_, a⟩)
    · exact ⟨rfl, a⟩
    · exact a.elim
/-- Open on a device that stands still. -/
theorem open_down (h : DvO w0 X p s W) (ok : Okd N B s) (hd : s.dead = true) (h4 : 4 ≤ n) (h256 : n ≤ 256) (hfr : fr + n ≤ N) (hN2 : N ≤ 4096) :
    Calls Try.prog 32 #[.pointer (some ⟨p, 0, none⟩), .int .i64 fr, .int .i64 n] W fun e W' => e = .returned (.tuple #[.pointer none, .int .i64 30]) ∧ Below W.heap.size W W' := by
  have hj := open_js (fr := fr) (n := n) h ok
  have hrec := recover_down hj hd (by omega)
  refine (open_with (Yes := fun _ => False) (No := fun W' => Below W.heap.size W W') h ok.hard h4 h256 hfr hN2 (hrec.mono ?_)).mono ?_
  · rintro e W' ⟨rfl, a⟩
    exact .inr ⟨rfl, bt (bnew _ _) a⟩
  · rintro e W' (⟨_, a⟩ | ⟨rfl, a⟩)
    · exact a.elim
    · exact ⟨rfl, a⟩
/-- What Open leaves where it lays. -/
def OcPost (w0 : World) (X : Nat → Prop) (p N B fr n g1 c1 : Nat) (s : DS) (l : Puts) (W : World) (e : Ending) (W' : World) : Prop :=
  ((runO s (recoverO fr g1 l)).2 = true ∧ e = .returned (.tuple #[.pointer (some ⟨W.heap.size, 0, none⟩), .int .i64 0]) ∧ JS w0 (fun k => X k ∨ k = W.heap.size) p W.heap.size N (B + wcount (recoverO fr g1 l)) fr n g1 c1 (runO s (recoverO fr g1 l)).1 W' ∧ Kb w0 X W W') ∨
  ((runO s (recoverO fr g1 l)).2 = false ∧ e = .returned (.tuple #[.pointer none, .int .i64 30]) ∧ DvO w0 X p (runO s (recoverO fr g1 l)).1 W' ∧ Okd N (B + wcount (recoverO fr g1 l)) (runO s (recoverO fr g1 l)).1 ∧ Kb w0 X W W')
theorem open_do (h : DvO w0 X p s W) (ok : Okd N B s) (hd : s.dead = false) (h4 : 4 ≤ n) (h256 : n ≤ 256) (hfr : fr + n ≤ N) (hN2 : N ≤ 4096) {m g1 c1 : Nat} (hm : IsMost n m) (hrd : readB (newest s fr) = (g1, c1)) (hg1 : g1 < 18446744073709551616) (hc0 : c1 ≠ 0) (hcm : c1 ≤ m) (l : Puts) (hl : keptP (newest s) fr c1 = l) (hpn : ∀ x ∈ l, x.1 < N ∧ x.2.size = 64) (hB : B + wcount (recoverO fr g1 l) ≤ 90000) :
    Calls Try.prog 32 #[.pointer (some ⟨p, 0, none⟩), .int .i64 fr, .int .i64 n] W (OcPost w0 X p N B fr n g1 c1 s l W) := by
  have hj := open_js (fr := fr) (n := n) h ok
  have hrec := recover_do hj hd hfr hN2 hm hrd hg1 hc0 hcm l hl hpn hB
  have hX : ∀ k, X k → k < W.heap.size := h.lt
  have hkk : ∀ {W'}, Kb w0 (fun k => (X k ∨ W.heap.size ≤ k ∧ k < (W.alloc (jnew p fr n)).heap.size) ∧ k ≠ W.heap.size) (W.alloc (jnew p fr n)) W' → Kb w0 X W W' := fun b => (h.kbelow (bnew _ _)).t (b.less (fun k hk => ⟨.inl hk, fun e => by have := hX k hk; omega⟩))
  refine (open_with (Yes := fun W' => (runO s (recoverO fr g1 l)).2 = true ∧ JS w0 (fun k => X k ∨ k = W.heap.size) p W.heap.size N (B + wcount (recoverO fr g1 l)) fr n g1 c1 (runO s (recoverO fr g1 l)).1 W' ∧ Kb w0 X W W') (No := fun W' => (runO s (recoverO fr g1 l)).2 = false ∧ DvO w0 X p (runO s (recoverO fr g1 l)).1 W' ∧ Okd N (B + wcount (recoverO fr g1 l)) (runO s (recoverO fr g1 l)).1 ∧ Kb w0 X W W') h ok.hard h4 h256 hfr hN2 (hrec.mono ?_)).mono ?_
  · rintro e W' (⟨hok, rfl, a, b⟩ | ⟨hok, rfl, a, b⟩)
    · exact .inl ⟨rfl, hok, a.less (fun k hk => hk.imp id (fun e => by subst e; exact ⟨Nat.le_refl _, by simp⟩)) (.inr rfl), hkk b⟩
    · exact .inr ⟨rfl, hok, a.dev.less (fun k hk => .inl hk), a.ok, hkk b⟩
  · rintro e W' (⟨rfl, a1, a2, a3⟩ | ⟨rfl, a1, a2, a3, a4⟩)
    · exact .inl ⟨a1, rfl, a2, a3⟩
    · exact .inr ⟨a1, rfl, a2, a3, a4⟩
end
end Go.Proofs.Ytjjphcnoegaimaa
