/- package cells: Forget. -/
import Derived.Test.YthmabnigdnbdkaaActs
namespace Go.Proofs.Ythmabnigdnbdkaa
open Go.RowKit
set_option maxRecDepth 20000

set_option maxHeartbeats 400000 in
theorem forget_any {w : World} {p m : Nat} {sv : Value} {on : Bool} {N : List (Int × Int)} {S : List Touch} (h : CellsAt w p m sv on N S) :
    Calls Try.prog 25 #[.pointer (some ⟨p, 0, none⟩)] w fun e w' => e = .returned (.tuple #[]) ∧ CellsAt w' p m (.slice none 0 0) on N [] ∧ Fr (· = p) w w' := by
  have c1 := cl_of h.obj 1
  have z1 := fz_of h.obj 1
  have hpm := h.pm
  go_enter Try.func25, Try.ntmps25
  go_wp2_with fail
  go_end0
  have hf : Fr (· = p) w (w.setCell ⟨p, 1, none⟩ (.slice none 0 0)) := Fr.setCell (S := fun k => k = p) (Fr.refl _ _) ⟨p, 1, none⟩ (.inr rfl) _
  exact ⟨rfl, ⟨heap_set_here h.obj 1 _, h.map.of_block (hf.block m (h.lt (.inr (.inl rfl))) hpm), World.ownsRow_nil _ _ _ _⟩, hf⟩
theorem co_forget {w0 w : World} {p m : Nat} {on : Bool} {N : List (Int × Int)} {S : List Touch} (h : CO w0 p m on N S w) :
    Calls Try.prog 25 #[.pointer (some ⟨p, 0, none⟩)] w fun e w' => e = .returned (.tuple #[]) ∧ CO w0 p m on N [] w' := by
  obtain ⟨sv, hc, hk⟩ := h.ex
  refine (forget_any hc).mono ?_
  rintro e w' ⟨rfl, h', hf⟩
  refine ⟨rfl, ⟨_, h', ?_⟩, Fr.step h.below hf h.below.size (fun k e => by subst e; exact hk _ (.inl rfl))⟩
  rintro k (rfl | rfl | hg)
  · exact hk _ (.inl rfl)
  · exact hk _ (.inr (.inl rfl))
  · cases hg
end Go.Proofs.Ythmabnigdnbdkaa
