/- package cells: Copy. -/
import Derived.Test.YthmabnigdnbdkaaForget
import Derived.Test.YthmabnigdnbdkaaLin2
import Derived.Shelf.SlMaps.Clone
namespace Go.Proofs.Ythmabnigdnbdkaa
open Go.RowKit
set_option maxRecDepth 20000
set_option linter.unusedSimpArgs false
set_option linter.unusedVariables false

set_option maxHeartbeats 2000000 in
theorem mclone_any {w : World} {m : Nat} {N : List (Int × Int)} (h : MapAt w m .u64 (nums N)) :
    Calls Try.prog 59 #[.map (some m)] w fun e w' => ∃ m', e = .returned (.map (some m')) ∧ w.heap.size ≤ m' ∧ MapAt w' m' .u64 (nums N) ∧ Fr (fun _ => False) w w' := by
  obtain ⟨es, clock, hb, hl, hn⟩ := h
  have hq := fun w => run_eql_map_nil_sl (P := Try.prog) w 86 _ _ (some m) Try.underlying86
  go_enter Try.func59, Try.ntmps59
  go_wp2
  rw [run_callFunc_extern Try.func72 (by kernel_rfl) (by kernel_rfl) (by kernel_rfl) (e := Extern.MapsClone.clone) (by kernel_rfl), run_maps_clone_sl w 86 hb]
  simp only [Result.andThen]
  rw [Oper.upon_value]
  go_wp2
  rw [run_typeAssert_map_sl _ 86 20 _ _ _ Try.underlying86]
  simp only [Result.andThen]
  rw [Oper.upon_value]
  go_wp2
  go_ret
  exact ⟨_, rfl, Nat.le_refl _, ⟨es, clock, hp_new _ _ rfl, hl, hn⟩, frm_alloc (Fr.refl _ _) _⟩
theorem cell_lt {w : World} {b i : Nat} {v : Value} (hc : w.cell? ⟨b, i, none⟩ = some v) : b < w.heap.size := by
  unfold World.cell? at hc
  cases hb : w.heap[b]? with
  | none => simp [hb] at hc
  | some o => exact (Array.getElem?_eq_some_iff.1 hb).1
theorem s3_fr {W W' : World} {p : Nat} {a b c : Value} (hf : Fr (fun _ => False) W W') (h : W.cell? ⟨p, 0, none⟩ = some a ∧ W.cell? ⟨p, 1, none⟩ = some b ∧ W.cell? ⟨p, 2, none⟩ = some c) :
    W'.cell? ⟨p, 0, none⟩ = some a ∧ W'.cell? ⟨p, 1, none⟩ = some b ∧ W'.cell? ⟨p, 2, none⟩ = some c := by
  have hl := cell_lt h.1
  exact ⟨(hf.cell (p := ⟨p, 0, none⟩) hl id).trans h.1, (hf.cell (p := ⟨p, 1, none⟩) hl id).trans h.2.1, (hf.cell (p := ⟨p, 2, none⟩) hl id).trans h.2.2⟩
theorem cells_new3 {w1 w2 : World} {m : Nat} {sv : Value} {on : Bool} {N : List (Int × Int)} {S : List Touch} (hm : MapAt w1 m .u64 (nums N)) (hr : w2.ownsRow 0 91 3 sv S.length (touches S)) (hf : Fr (fun _ => False) w1 w2) :
    CellsAt (w2.alloc (.cells #[.map (some m), sv, .bool on] 88 (0, 0))) w2.heap.size m sv on N S := by
  have hm2 : MapAt w2 m .u64 (nums N) := hm.of_block (hf.block m hm.lt id)
  exact ⟨hp_new _ _ rfl, hm2.of_block (hp_old _ _ hm2.lt), ownsRowB_alloc hr _⟩
theorem cells_new3' {w1 w2 : World} {m : Nat} {sv : Value} {on : Bool} {N : List (Int × Int)} {S : List Touch} (hm : MapAt w2 m .u64 (nums N)) (hr : w1.ownsRow 0 91 3 sv S.length (touches S)) (hf : Fr (fun _ => False) w1 w2) :
    CellsAt (w2.alloc (.cells #[.map (some m), sv, .bool on] 88 (0, 0))) w2.heap.size m sv on N S :=
  ⟨hp_new _ _ rfl, hm.of_block (hp_old _ _ hm.lt), ownsRowB_alloc (ownsRow_of_block hr (fun k hk => hf.block k (ownsRow_lt hr hk) id)) _⟩
theorem foot3 {B p m : Nat} {sv : Value} (h1 : B ≤ p) (h2 : B ≤ m) (h3 : ∀ k, sv.ownBlock = some k → B ≤ k) : ∀ k, cfoot p m sv k → B ≤ k := by
  rintro k (rfl | rfl | h)
  · exact h1
  · exact h2
  · exact h3 k h
set_option maxHeartbeats 4000000 in
theorem copy_any {w : World} {p m : Nat} {sv : Value} {on : Bool} {N : List (Int × Int)} {S : List Touch} (h : CellsAt w p m sv on N S) (hn : Few S) :
    Calls Try.prog 26 #[.pointer (some ⟨p, 0, none⟩)] w fun e w' => ∃ p' m' sv', e = .returned (.pointer (some ⟨p', 0, none⟩)) ∧ CellsAt w' p' m' sv' on N S ∧ (∀ k, cfoot p' m' sv' k → w.heap.size ≤ k) ∧ Fr (fun _ => False) w w' := by
  obtain ⟨ao, cap, hv, -⟩ := own_form h.row
  subst hv
  have c0 := cl_of h.obj 0
  have c1 := cl_of h.obj 1
  have c2 := cl_of h.obj 2
  have hmp : MapAt w.drew m .u64 (nums N) := h.map
  have hrS : w.drew.ownsRow 0 91 3 (.slice ao S.length cap) S.length (touches S) := h.row
  go_enter Try.func26, Try.ntmps26
  go_wp2_with fail
  refine wp_region_noPanic ?_
  refine wp_region_held_drew (S := (fun Wq => Wq.cell? ⟨p, 0, none⟩ = some (.map (some m)) ∧ Wq.cell? ⟨p, 1, none⟩ = some (.slice ao S.length cap) ∧ Wq.cell? ⟨p, 2, none⟩ = some (.bool on))) (by kernel_rfl) (by exact ⟨c0, c1, c2⟩) (fun hHeld => ?_)
  refine wpAnyH_now (i := 0) (v := ?v0) rfl (by kernel_rfl) (by kernel_rfl) (by kernel_rfl) (fun _ _ _ h => h) (by rfl) ?h0 (by assumption) ?_
  case h0 => ((intro w hSw; (try dsimp only at hSw); go_simp); try with_reducible rfl)
  (try simp only [Act.put, List.setIfInBounds_toArray, List.set_cons_succ, List.set_cons_zero])
  refine wpAnyH_now (i := 1) (v := ?v1) rfl (by kernel_rfl) (by kernel_rfl) (by kernel_rfl) (fun _ _ _ h => h) (by rfl) ?h1 (by assumption) ?_
  case h1 => ((intro w hSw; (try dsimp only at hSw); go_simp); try with_reducible rfl)
  (try simp only [Act.put, List.setIfInBounds_toArray, List.set_cons_succ, List.set_cons_zero])
  refine wpAnyH_now (i := 2) (v := ?v2) rfl (by kernel_rfl) (by kernel_rfl) (by kernel_rfl) (fun _ _ _ h => h) (by rfl) ?h2 (by assumption) ?_
  case h2 => ((intro w hSw; (try dsimp only at hSw); go_simp); try with_reducible rfl)
  (try simp only [Act.put, List.setIfInBounds_toArray, List.set_cons_succ, List.set_cons_zero])
  refine wpAnyH_now (i := 3) (v := ?v3) rfl (by kernel_rfl) (by kernel_rfl) (by kernel_rfl) (fun _ _ _ h => h) (by rfl) ?h3 (by assumption) ?_
  case h3 => ((intro w hSw; (try dsimp only at hSw); go_simp); try with_reducible rfl)
  (try simp only [Act.put, List.setIfInBounds_toArray, List.set_cons_succ, List.set_cons_zero])
  refine wpAnyH_now (i := 5) (v := ?v4) rfl (by kernel_rfl) (by kernel_rfl) (by kernel_rfl) (fun _ _ _ h => h) (by rfl) ?h4 (by assumption) ?_
  case h4 => ((intro w hSw; (try dsimp only at hSw); go_simp); try with_reducible rfl)
  (try simp only [Act.put, List.setIfInBounds_toArray, List.set_cons_succ, List.set_cons_zero])
  refine wpAnyH_now (i := 6) (v := ?v5) rfl (by kernel_rfl) (by kernel_rfl) (by kernel_rfl) (fun _ _ _ h => h) (by rfl) ?h5 (by assumption) ?_
  case h5 => ((intro w hSw; (try dsimp only at hSw); go_simp); try with_reducible rfl)
  (try simp only [Act.put, List.setIfInBounds_toArray, List.set_cons_succ, List.set_cons_zero])
  refine wpAnyH_now (i := 7) (v := ?v6) rfl (by kernel_rfl) (by kernel_rfl) (by kernel_rfl) (fun _ _ _ h => h) (by rfl) ?h6 (by assumption) ?_
  case h6 => ((intro w hSw; (try dsimp only at hSw); go_simp); try with_reducible rfl)
  (try simp only [Act.put, List.setIfInBounds_toArray, List.set_cons_succ, List.set_cons_zero])
  refine wpAnyH_now (i := 8) (v := ?v7) rfl (by kernel_rfl) (by kernel_rfl) (by kernel_rfl) (fun _ _ _ h => h) (by rfl) ?h7 (by assumption) ?_
  case h7 => ((intro w hSw; (try dsimp only at hSw); go_simp); try with_reducible rfl)
  (try simp only [Act.put, List.setIfInBounds_toArray, List.set_cons_succ, List.set_cons_zero])
  refine wpAnyH_now (i := 10) (v := ?v8) rfl (by kernel_rfl) (by kernel_rfl) (by kernel_rfl) (fun _ _ _ h => h) (by rfl) ?h8 (by assumption) ?_
  case h8 => ((intro w hSw; (try dsimp only at hSw); go_simp); try with_reducible rfl)
  (try simp only [Act.put, List.setIfInBounds_toArray, List.set_cons_succ, List.set_cons_zero])
  refine wpAnyH_now (i := 11) (v := ?v9) rfl (by kernel_rfl) (by kernel_rfl) (by kernel_rfl) (fun _ _ _ h => h) (by rfl) ?h9 (by assumption) ?_
  case h9 => ((intro w hSw; (try dsimp only at hSw); go_simp); try with_reducible rfl)
  (try simp only [Act.put, List.setIfInBounds_toArray, List.set_cons_succ, List.set_cons_zero])
  refine wpAnyH_now (i := 12) (v := ?v10) rfl (by kernel_rfl) (by kernel_rfl) (by kernel_rfl) (fun _ _ _ h => h) (by rfl) ?h10 (by assumption) ?_
  case h10 => ((intro w hSw; (try dsimp only at hSw); go_simp); try with_reducible rfl)
  (try simp only [Act.put, List.setIfInBounds_toArray, List.set_cons_succ, List.set_cons_zero])
  refine wpAnyH_now (i := 13) (v := ?v11) rfl (by kernel_rfl) (by kernel_rfl) (by kernel_rfl) (fun _ _ _ h => h) (by rfl) ?h11 (by assumption) ?_
  case h11 => ((intro w hSw; (try dsimp only at hSw); go_simp); try with_reducible rfl)
  (try simp only [Act.put, List.setIfInBounds_toArray, List.set_cons_succ, List.set_cons_zero])
  refine wpAnyH_only (i := 4) (by kernel_rfl) rfl (by rfl) (fun K hK => ?_)
  go_simp
  refine (mclone_any hmp).mono ?_
  rintro e w1 ⟨m', rfl, hm', hma, hfm⟩
  refine hK.out _ _ (by exact s3_fr hfm hHeld) (fun hHeld => ?_)
  clear hK K
  (try simp only [Act.put, List.setIfInBounds_toArray, List.set_cons_succ, List.set_cons_zero])
  refine wpAnyH_only (i := 9) (by kernel_rfl) rfl (by rfl) (fun K hK => ?_)
  go_simp
  refine (clone_any (S := S) (ownsRow_of_block hrS (fun k hk => hfm.block k (ownsRow_lt hrS hk) id)) hn).mono ?_
  rintro e w2 ⟨v', rfl, hrow, hfs⟩
  obtain ⟨ao', cap', hv', -⟩ := own_form (ownsRowB_zero hrow)
  subst hv'
  refine hK.out _ _ (by exact s3_fr hfs hHeld) (fun hHeld => ?_)
  clear hK K
  (try simp only [Act.put, List.setIfInBounds_toArray, List.set_cons_succ, List.set_cons_zero])
  refine wpAnyH_now (i := 14) (v := ?v12) rfl (by kernel_rfl) (by kernel_rfl) (by kernel_rfl) (fun _ _ _ h => h) (by rfl) ?h12 (by assumption) ?_
  case h12 => ((intro w hSw; (try dsimp only at hSw); go_simp); try with_reducible rfl)
  (try simp only [Act.put, List.setIfInBounds_toArray, List.set_cons_succ, List.set_cons_zero])
  refine wpAnyH_only (i := 15) (by kernel_rfl) rfl (by rfl) (fun K hK => ?_)
  go_simp
  refine hK.out _ _ (by exact s3_fr (frm_alloc (Fr.refl _ _) _) hHeld) (fun hHeld => ?_)
  clear hK K
  (try simp only [Act.put, List.setIfInBounds_toArray, List.set_cons_succ, List.set_cons_zero])
  refine wpAnyH_now (i := 16) (v := ?v13) rfl (by kernel_rfl) (by kernel_rfl) (by kernel_rfl) (fun _ _ _ h => h) (by rfl) ?h13 (by assumption) ?_
  case h13 => ((intro w hSw; (try dsimp only at hSw); go_simp); try with_reducible rfl)
  (try simp only [Act.put, List.setIfInBounds_toArray, List.set_cons_succ, List.set_cons_zero])
  refine wpAnyH_done (by kernel_rfl) ?_ _
  refine NoPanic.normal ?_
  go_wp2_with fail
  go_ret
  refine ⟨w2.heap.size, m', _, rfl, cells_new3 hma (ownsRowB_zero hrow) hfs, ?_, (((Fr.refl (fun _ => False) w).drew.trans hfm).trans hfs).alloc _⟩
  have z1 := hfm.size; have z2 := hfs.size
  change w.heap.size ≤ w1.heap.size at z1
  exact foot3 (by omega) hm' (fun k hk => by have := (ownsRowB_ge hrow hk).1; omega)
theorem co_copy {w0 w : World} {p m : Nat} {on : Bool} {N : List (Int × Int)} {S : List Touch} (h : CO w0 p m on N S w) (hn : Few S) :
    Calls Try.prog 26 #[.pointer (some ⟨p, 0, none⟩)] w fun e w' => ∃ p' m', e = .returned (.pointer (some ⟨p', 0, none⟩)) ∧ CO w0 p' m' on N S w' ∧ w.heap.size ≤ p' := by
  obtain ⟨sv, hc, hk⟩ := h.ex
  refine (copy_any hc hn).mono ?_
  rintro e w' ⟨p', m', sv', rfl, hc', hk', hf⟩
  exact ⟨p', m', rfl, ⟨⟨sv', hc', fun k hk2 => Nat.le_trans h.below.size (hk' k hk2)⟩, Fr.step h.below hf h.below.size (fun _ h => h.elim)⟩, hk' _ (.inl rfl)⟩
end Go.Proofs.Ythmabnigdnbdkaa
