/- lunettelaw08.text; a transaction while a block of the caller's own turns; rows of puts as Go's numbers. -/
import Derived.Test.YtjjphcnoegaimaaGreatHG
import Derived.Test.YtjjphcnoegaimaaGreatLong08
import Derived.Test.YtjjphcnoegaimaaGreatGQ
import Derived.Test.YtjjphcnoegaimaaGreatGM
namespace Go.Proofs.YtjjphcnoegaimaaGreat
open Go.RowKit Go.Shelf Go.Maps
set_option maxRecDepth 20000
set_option linter.unusedVariables false

set_option maxHeartbeats 1000000 in
theorem text8_any (s : ByteArray) (hs : s.size ≤ maxLen) (w : World) : Calls Tryz.prog 14 #[.agg #[.int .i64 0, .int .i64 0, .int .i64 0, .string s, .bool false]] w fun e w' => e = .returned (.string (fullB s)) ∧ Below w.heap.size w w' := by
  have hf := full_any s hs (w.alloc (.cells #[.int .i64 0, .int .i64 0, .int .i64 0, .string s, .bool false] 42))
  have HS := Lib.hid hf
  clear hf
  go_enter Tryz.func14, Tryz.ntmps14
  go_wp2_with fail
  refine HS.out.mono ?_
  rintro e w1 ⟨rfl, hB⟩
  go_wp2_with fail
  go_ret
  exact ⟨rfl, bt (bnew _ _) hB⟩
section
variable {w0 w W W' : World} {X : Nat → Prop} {p jb N B fr n g r tb m : Nat} {s s' : DS} {M : Wl} {dn : Bool}
/-- One of the caller's own blocks turns, and new ones are laid. -/
theorem TJ.fr1 (h : TJ w0 X p jb N B fr n g r s tb m M dn W) {b : Nat} (hb : X b) (hw : w0.heap.size ≤ b) (h1 : b ≠ jb) (h2 : b ≠ tb) (h3 : b ≠ m) (hf : Fr (fun k => k = b) W W') : TJ w0 (fun k => X k ∨ W.heap.size ≤ k ∧ k < W'.heap.size) p jb N B fr n g r s tb m M dn W' := by
  refine ⟨⟨⟨(h.j.dev.dev.tight.fr hf (fun k hk e => ?_)).weak (fun k hk => ⟨hk.1.1, fun e => ?_⟩), h.j.dev.below.trans (hf.below h.j.dev.below.size (fun k e => by rw [e]; exact hw)), fun k hk => ?_⟩, h.j.ok, (hf.block jb (blk_lt h.j.obj) (fun e => h1 e.symm)).trans h.j.obj, .inl h.j.own, h.j.ge⟩, h.t.keep (hf.block tb (blk_lt h.t.obj) (fun e => h2 e.symm)) (hf.block m h.t.mlt (fun e => h3 e.symm)), .inl h.xt, .inl h.xm, h.gt, h.gm⟩
  · subst e
    exact hk.1.2 hb
  · rcases e with e | e
    · exact hk.1.2 e
    · have := hk.2; omega
  · rcases hk with hk | hk
    · exact Nat.lt_of_lt_of_le (h.j.dev.lt k hk) hf.size
    · exact hk.2
/-- The device goes on under a transaction. -/
theorem TJ.dev (h : TJ w0 X p jb N B fr n g r s tb m M dn W) {C : Nat} (hj : JS w0 X p jb N C fr n g r s' W') (hk : Kb w0 X W W') : TJ w0 X p jb N C fr n g r s' tb m M dn W' := ⟨hj, h.t.keep (hk tb (.inr h.xt)) (hk m (.inr h.xm)), h.xt, h.xm, h.gt, h.gm⟩
theorem TJ.mono (h : TJ w0 X p jb N B fr n g r s tb m M dn W) {C : Nat} (hc : B ≤ C) : TJ w0 X p jb N C fr n g r s tb m M dn W := ⟨h.j.mono hc, h.t, h.xt, h.xm, h.gt, h.gm⟩

/-- Sectors that the law writes. -/
def InW (M : Wl) : Prop := ∀ x ∈ M, 16 ≤ x.1 ∧ x.1 < 40 ∧ x.2.size = 64
theorem InW.put {M : Wl} (h : InW M) {n : Nat} (h1 : 16 ≤ n) (h2 : n < 40) {b : ByteArray} (hb : b.size = 64) : InW (pins (n : Int) b M) := fun x hx => by
  rcases pins_keys _ _ _ x hx with rfl | hx
  · exact ⟨by dsimp only; omega, by dsimp only; omega, hb⟩
  · exact h x hx
theorem InW.rput {M : Wl} (h : InW M) {n : Nat} (h1 : 16 ≤ n) (h2 : n < 40) {b : ByteArray} (hb : b.size = 64) (mx : Nat) : InW (rput n b M mx) := by
  unfold Go.Proofs.YtjjphcnoegaimaaGreat.rput
  split
  · exact h.put h1 h2 hb
  · exact h
/-- Such sectors as a transaction of the journal. -/
theorem InW.puts {M : Wl} (h : InW M) (hl : M.length ≤ 10) : ∃ l : Puts, zP l = M ∧ MayP 40 4 12 l := by
  refine ⟨M.map fun x => (x.1.toNat, x.2), ?_, by decide, by decide, ?_, ?_⟩
  · rw [zP, List.map_map]
    conv => rhs; rw [← List.map_id M]
    refine List.map_congr_left (fun x hx => ?_)
    have := h x hx
    show (((x.1.toNat : Nat) : Int), x.2) = x
    rw [show ((x.1.toNat : Nat) : Int) = x.1 by omega]
  · rw [List.length_map]
    have : places M.length ≤ 1 := by unfold places; omega
    omega
  · intro y hy
    obtain ⟨x, hx, rfl⟩ := List.mem_map.1 hy
    have := h x hx
    dsimp only
    exact ⟨by omega, .inr (by omega), this.2.2⟩
end
end Go.Proofs.YtjjphcnoegaimaaGreat
