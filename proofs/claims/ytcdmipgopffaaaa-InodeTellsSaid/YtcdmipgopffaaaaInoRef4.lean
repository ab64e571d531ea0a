/- The document's answer for package inode: the walk through Get. -/
import Derived.Test.YtcdmipgopffaaaaInoRef3
namespace Go.Proofs.Ytcdmipgopffaaaa
open Go.RowKit
set_option maxRecDepth 20000
set_option linter.unusedVariables false
set_option linter.unusedSimpArgs false

set_option maxHeartbeats 16000000 in
theorem rget_long (l : List UInt8) (hl : 32 ≤ l.length) (hl2 : l.length ≤ 100000) (w : World) : Calls Try.prog 32 #[.string (bs l)] w fun e w' =>
    Below w.heap.size w w' ∧ ((toIno l).May ∧ (toIno l).bytes = l → e = .returned (.tuple #[.agg (ic (toIno l)), .int .i64 0])) ∧ (¬ ((toIno l).May ∧ (toIno l).bytes = l) → e = .returned (.tuple #[.agg (ic Ino.zero), .int .i64 7])) := by
  have hs := bs_size l
  have G1 : Hid (∀ W : World, Calls Try.prog 54 #[.string (bs l), .int .i64 2] W fun e w' => e = .returned (.int .u16 (gn l 1)) ∧ Below W.heap.size W w') := fun W => by
    rw [gn_at l hl 1 (by decide)]
    exact rat_any (bs l) 2 (by rw [hs]; omega) (by rw [hs]; exact hl2) W
  have G2 : Hid (∀ W : World, Calls Try.prog 54 #[.string (bs l), .int .i64 4] W fun e w' => e = .returned (.int .u16 (gn l 2)) ∧ Below W.heap.size W w') := fun W => by
    rw [gn_at l hl 2 (by decide)]
    exact rat_any (bs l) 4 (by rw [hs]; omega) (by rw [hs]; exact hl2) W
  have G3 : Hid (∀ W : World, Calls Try.prog 54 #[.string (bs l), .int .i64 6] W fun e w' => e = .returned (.int .u16 (gn l 3)) ∧ Below W.heap.size W w') := fun W => by
    rw [gn_at l hl 3 (by decide)]
    exact rat_any (bs l) 6 (by rw [hs]; omega) (by rw [hs]; exact hl2) W
  have G4 : Hid (∀ W : World, Calls Try.prog 54 #[.string (bs l), .int .i64 8] W fun e w' => e = .returned (.int .u16 (gn l 4)) ∧ Below W.heap.size W w') := fun W => by
    rw [gn_at l hl 4 (by decide)]
    exact rat_any (bs l) 8 (by rw [hs]; omega) (by rw [hs]; exact hl2) W
  have G5 : Hid (∀ W : World, Calls Try.prog 54 #[.string (bs l), .int .i64 10] W fun e w' => e = .returned (.int .u16 (gn l 5)) ∧ Below W.heap.size W w') := fun W => by
    rw [gn_at l hl 5 (by decide)]
    exact rat_any (bs l) 10 (by rw [hs]; omega) (by rw [hs]; exact hl2) W
  have G6 : Hid (∀ W : World, Calls Try.prog 54 #[.string (bs l), .int .i64 12] W fun e w' => e = .returned (.int .u16 (gn l 6)) ∧ Below W.heap.size W w') := fun W => by
    rw [gn_at l hl 6 (by decide)]
    exact rat_any (bs l) 12 (by rw [hs]; omega) (by rw [hs]; exact hl2) W
  have G7 : Hid (∀ W : World, Calls Try.prog 54 #[.string (bs l), .int .i64 14] W fun e w' => e = .returned (.int .u16 (gn l 7)) ∧ Below W.heap.size W w') := fun W => by
    rw [gn_at l hl 7 (by decide)]
    exact rat_any (bs l) 14 (by rw [hs]; omega) (by rw [hs]; exact hl2) W
  have G8 : Hid (∀ W : World, Calls Try.prog 54 #[.string (bs l), .int .i64 16] W fun e w' => e = .returned (.int .u16 (gn l 8)) ∧ Below W.heap.size W w') := fun W => by
    rw [gn_at l hl 8 (by decide)]
    exact rat_any (bs l) 16 (by rw [hs]; omega) (by rw [hs]; exact hl2) W
  have i0 : ∀ W, (Instr.index 9 (.string (bs l)) (.int .i64 0)).run Try.prog W = .ok (.int .u8 (gn l 0 % 256)) W := fun W => by
    rw [run_index_string _ _ _ _ _ Try.underlying9, dif_pos (by rw [hs]; omega)]
    rw [gn_at l hl 0 (by decide)]
    have e : (bs l)[(0 : Int).toNat]'(by rw [hs]; show 0 < l.length; omega) = l[2 * 0] := rfl
    rw [e]
    have := (l[2 * 0]'(by omega)).toNat_lt
    congr 2
    omega
  have hor := or_sh16 (gn_bd l 2) (gn_bd l 3)
  obtain ⟨b0a, b0b⟩ := gn_bd l 0
  obtain ⟨b1a, b1b⟩ := gn_bd l 1
  obtain ⟨b2a, b2b⟩ := gn_bd l 2
  obtain ⟨b3a, b3b⟩ := gn_bd l 3
  obtain ⟨b4a, b4b⟩ := gn_bd l 4
  obtain ⟨b5a, b5b⟩ := gn_bd l 5
  obtain ⟨b6a, b6b⟩ := gn_bd l 6
  obtain ⟨b7a, b7b⟩ := gn_bd l 7
  obtain ⟨b8a, b8b⟩ := gn_bd l 8
  obtain ⟨m, hm, hmay⟩ := rmay_ino (toIno l) (toIno_wf l)
  have hput := rput_ino (toIno l) (toIno_wf l)
  have HM := Lib.hid hm
  clear hm
  generalize hy : (toIno l).bytes = yb at *
  clear hy
  generalize hY : (toIno l).May = YM at *
  clear hY
  have ei : ic (toIno l) = #[.int .u8 (gn l 0 % 256), .int .u16 (gn l 1), .int .u32 (gn l 2 + 65536 * gn l 3), .int .u16 (gn l 4), .int .u16 (gn l 5), .int .u16 (gn l 6), .int .u16 (gn l 7), .int .u16 (gn l 8)] := rfl
  rw [ei] at hmay hput ⊢
  clear ei
  generalize gn l 1 = V1 at *
  generalize gn l 2 = V2 at *
  generalize gn l 3 = V3 at *
  generalize gn l 4 = V4 at *
  generalize gn l 5 = V5 at *
  generalize gn l 6 = V6 at *
  generalize gn l 7 = V7 at *
  generalize gn l 8 = V8 at *
  have hv0 : 0 ≤ gn l 0 % 256 ∧ gn l 0 % 256 < 256 := by omega
  generalize gn l 0 % 256 = V0 at *
  clear b0a b0b
  have c2 : IntKind.u32.wrap V2 = V2 := IntWalk.u32_in _ (by omega)
  have c3 : IntKind.u32.wrap V3 = V3 := IntWalk.u32_in _ (by omega)
  have c4 : IntKind.u32.wrap (V3 * 65536) = V3 * 65536 := IntWalk.u32_in _ (by omega)
  have HMAY := Lib.hid hmay
  have HPUT := Lib.hid hput
  clear hmay hput
  have hl3 : decide ((l.length : Int) < 32) = false := decide_eq_false (by omega)
  unfold ic
  dsimp only [Ino.zero]
  go_enter Try.func32, Try.ntmps32
  go_wp2_with fail
  apply region_mid (R := fun nb W' => W'.heap[nb]? = some (.cells #[.int .u8 V0, .int .u16 V1, .int .u32 (V2 + 65536 * V3), .int .u16 V4, .int .u16 V5, .int .u16 V6, .int .u16 V7, .int .u16 V8] 51 (0, 0)) ∧ w.heap.size < nb ∧ W'.heap[w.heap.size]? = some (.cells #[.int .u8 0, .int .u16 0, .int .u32 0, .int .u16 0, .int .u16 0, .int .u16 0, .int .u16 0, .int .u16 0] 51 (0, 0)) ∧ Below w.heap.size w W')
  · refine wp_region_noPanic ?_
    refine region_namedH (S := (fun W => W.heap[w.heap.size]? = some (.cells #[.int .u8 0, .int .u16 0, .int .u32 0, .int .u16 0, .int .u16 0, .int .u16 0, .int .u16 0, .int .u16 0] 51 (0, 0)))) (by kernel_rfl) (fun W2 HW2 => ⟨by rw [HW2.out]; exact hp_new w _ rfl, fun hHeld => ?_⟩)
    have B0 : Below w.heap.size w W2 := by rw [HW2.out]; exact (bnew _ _).drew
    refine wpAnyH_now (i := 0) (v := ?v700) rfl (by kernel_rfl) (by kernel_rfl) (by kernel_rfl) (fun _ _ _ h => h) (by rfl) ?h700 (by assumption) ?_
    case h700 => ((intro w hSw; (try dsimp only at hSw); go_simp); try with_reducible rfl)
    (try simp only [Act.put, List.setIfInBounds_toArray, List.set_cons_succ, List.set_cons_zero])
    refine wpAnyH_now (i := 1) (v := ?v701) rfl (by kernel_rfl) (by kernel_rfl) (by kernel_rfl) (fun _ _ _ h => h) (by rfl) ?h701 (by assumption) ?_
    case h701 => ((intro w hSw; (try dsimp only at hSw); go_simp); try with_reducible rfl)
    (try simp only [Act.put, List.setIfInBounds_toArray, List.set_cons_succ, List.set_cons_zero])
    refine wpAnyH_now (i := 2) (v := ?v702) rfl (by kernel_rfl) (by kernel_rfl) (by kernel_rfl) (fun _ _ _ h => h) (by rfl) ?h702 (by assumption) ?_
    case h702 => ((intro w hSw; (try dsimp only at hSw); go_simp); try with_reducible rfl)
    (try simp only [Act.put, List.setIfInBounds_toArray, List.set_cons_succ, List.set_cons_zero])
    refine wpAnyH_now (i := 4) (v := ?v703) rfl (by kernel_rfl) (by kernel_rfl) (by kernel_rfl) (fun _ _ _ h => h) (by rfl) ?h703 (by assumption) ?_
    case h703 => ((intro w hSw; (try dsimp only at hSw); go_simp); try with_reducible rfl)
    (try simp only [Act.put, List.setIfInBounds_toArray, List.set_cons_succ, List.set_cons_zero])
    refine wpAnyH_now (i := 7) (v := ?v704) rfl (by kernel_rfl) (by kernel_rfl) (by kernel_rfl) (fun _ _ _ h => h) (by rfl) ?h704 (by assumption) ?_
    case h704 => ((intro w hSw; (try dsimp only at hSw); go_simp); try with_reducible rfl)
    (try simp only [Act.put, List.setIfInBounds_toArray, List.set_cons_succ, List.set_cons_zero])
    refine wpAnyH_now (i := 12) (v := ?v705) rfl (by kernel_rfl) (by kernel_rfl) (by kernel_rfl) (fun _ _ _ h => h) (by rfl) ?h705 (by assumption) ?_
    case h705 => ((intro w hSw; (try dsimp only at hSw); go_simp); try with_reducible rfl)
    (try simp only [Act.put, List.setIfInBounds_toArray, List.set_cons_succ, List.set_cons_zero])
    refine wpAnyH_now (i := 14) (v := ?v706) rfl (by kernel_rfl) (by kernel_rfl) (by kernel_rfl) (fun _ _ _ h => h) (by rfl) ?h706 (by assumption) ?_
    case h706 => ((intro w hSw; (try dsimp only at hSw); go_simp); try with_reducible rfl)
    (try simp only [Act.put, List.setIfInBounds_toArray, List.set_cons_succ, List.set_cons_zero])
    refine wpAnyH_now (i := 16) (v := ?v707) rfl (by kernel_rfl) (by kernel_rfl) (by kernel_rfl) (fun _ _ _ h => h) (by rfl) ?h707 (by assumption) ?_
    case h707 => ((intro w hSw; (try dsimp only at hSw); go_simp); try with_reducible rfl)
    (try simp only [Act.put, List.setIfInBounds_toArray, List.set_cons_succ, List.set_cons_zero])
    refine wpAnyH_now (i := 18) (v := ?v708) rfl (by kernel_rfl) (by kernel_rfl) (by kernel_rfl) (fun _ _ _ h => h) (by rfl) ?h708 (by assumption) ?_
    case h708 => ((intro w hSw; (try dsimp only at hSw); go_simp); try with_reducible rfl)
    (try simp only [Act.put, List.setIfInBounds_toArray, List.set_cons_succ, List.set_cons_zero])
    refine wpAnyH_now (i := 21) (v := ?v709) rfl (by kernel_rfl) (by kernel_rfl) (by kernel_rfl) (fun _ _ _ h => h) (by rfl) ?h709 (by assumption) ?_
    case h709 => ((intro w hSw; (try dsimp only at hSw); go_simp); try with_reducible rfl)
    (try simp only [Act.put, List.setIfInBounds_toArray, List.set_cons_succ, List.set_cons_zero])
    refine wpAnyH_two (i := 3) (j := 24) (by kernel_rfl) rfl rfl (by rfl) (by rfl) (fun K hK => ?_) (fun K hK => ?_)
    · go_simp
      refine (G1.out _).mono ?_
      rintro e w1 ⟨rfl, hB1⟩
      refine hK.out _ _ (by first | exact bblk (by assumption) hHeld | exact blk_old hHeld _) (fun hHeld => ?_)
      clear hK K
      (try simp only [Act.put, List.setIfInBounds_toArray, List.set_cons_succ, List.set_cons_zero])
      refine wpAnyH_two (i := 5) (j := 24) (by kernel_rfl) rfl rfl (by rfl) (by rfl) (fun K hK => ?_) (fun K hK => ?_)
      · go_simp
        refine (G2.out _).mono ?_
        rintro e w2 ⟨rfl, hB2⟩
        refine hK.out _ _ (by first | exact bblk (by assumption) hHeld | exact blk_old hHeld _) (fun hHeld => ?_)
        clear hK K
        (try simp only [Act.put, List.setIfInBounds_toArray, List.set_cons_succ, List.set_cons_zero])
        refine wpAnyH_now (i := 6) (v := ?v710) rfl (by kernel_rfl) (by kernel_rfl) (by kernel_rfl) (fun _ _ _ h => h) (by rfl) ?h710 (by assumption) ?_
        case h710 => ((intro w hSw; (try dsimp only at hSw); go_simp); try with_reducible rfl)
        (try simp only [Act.put, List.setIfInBounds_toArray, List.set_cons_succ, List.set_cons_zero])
        refine wpAnyH_two (i := 8) (j := 24) (by kernel_rfl) rfl rfl (by rfl) (by rfl) (fun K hK => ?_) (fun K hK => ?_)
        · go_simp
          refine (G3.out _).mono ?_
          rintro e w3 ⟨rfl, hB3⟩
          refine hK.out _ _ (by first | exact bblk (by assumption) hHeld | exact blk_old hHeld _) (fun hHeld => ?_)
          clear hK K
          (try simp only [Act.put, List.setIfInBounds_toArray, List.set_cons_succ, List.set_cons_zero])
          refine wpAnyH_now (i := 9) (v := ?v711) rfl (by kernel_rfl) (by kernel_rfl) (by kernel_rfl) (fun _ _ _ h => h) (by rfl) ?h711 (by assumption) ?_
          case h711 => ((intro w hSw; (try dsimp only at hSw); go_simp); try with_reducible rfl)
          (try simp only [Act.put, List.setIfInBounds_toArray, List.set_cons_succ, List.set_cons_zero])
          refine wpAnyH_now (i := 10) (v := ?v712) rfl (by kernel_rfl) (by kernel_rfl) (by kernel_rfl) (fun _ _ _ h => h) (by rfl) ?h712 (by assumption) ?_
          case h712 => ((intro w hSw; (try dsimp only at hSw); go_simp); try with_reducible rfl)
          (try simp only [Act.put, List.setIfInBounds_toArray, List.set_cons_succ, List.set_cons_zero])
          refine wpAnyH_now (i := 11) (v := ?v713) rfl (by kernel_rfl) (by kernel_rfl) (by kernel_rfl) (fun _ _ _ h => h) (by rfl) ?h713 (by assumption) ?_
          case h713 => ((intro w hSw; (try dsimp only at hSw); go_simp); try with_reducible rfl)
          (try simp only [Act.put, List.setIfInBounds_toArray, List.set_cons_succ, List.set_cons_zero])
          refine wpAnyH_two (i := 13) (j := 24) (by kernel_rfl) rfl rfl (by rfl) (by rfl) (fun K hK => ?_) (fun K hK => ?_)
          · go_simp
            refine (G4.out _).mono ?_
            rintro e w4 ⟨rfl, hB4⟩
            refine hK.out _ _ (by first | exact bblk (by assumption) hHeld | exact blk_old hHeld _) (fun hHeld => ?_)
            clear hK K
            (try simp only [Act.put, List.setIfInBounds_toArray, List.set_cons_succ, List.set_cons_zero])
            refine wpAnyH_two (i := 15) (j := 24) (by kernel_rfl) rfl rfl (by rfl) (by rfl) (fun K hK => ?_) (fun K hK => ?_)
            · go_simp
              refine (G5.out _).mono ?_
              rintro e w5 ⟨rfl, hB5⟩
              refine hK.out _ _ (by first | exact bblk (by assumption) hHeld | exact blk_old hHeld _) (fun hHeld => ?_)
              clear hK K
              (try simp only [Act.put, List.setIfInBounds_toArray, List.set_cons_succ, List.set_cons_zero])
              refine wpAnyH_two (i := 17) (j := 24) (by kernel_rfl) rfl rfl (by rfl) (by rfl) (fun K hK => ?_) (fun K hK => ?_)
              · go_simp
                refine (G6.out _).mono ?_
                rintro e w6 ⟨rfl, hB6⟩
                refine hK.out _ _ (by first | exact bblk (by assumption) hHeld | exact blk_old hHeld _) (fun hHeld => ?_)
                clear hK K
                (try simp only [Act.put, List.setIfInBounds_toArray, List.set_cons_succ, List.set_cons_zero])
                refine wpAnyH_two (i := 19) (j := 24) (by kernel_rfl) rfl rfl (by rfl) (by rfl) (fun K hK => ?_) (fun K hK => ?_)
                · go_simp
                  refine (G7.out _).mono ?_
                  rintro e w7 ⟨rfl, hB7⟩
                  refine hK.out _ _ (by first | exact bblk (by assumption) hHeld | exact blk_old hHeld _) (fun hHeld => ?_)
                  clear hK K
                  (try simp only [Act.put, List.setIfInBounds_toArray, List.set_cons_succ, List.set_cons_zero])
                  refine wpAnyH_now (i := 20) (v := ?v714) rfl (by kernel_rfl) (by kernel_rfl) (by kernel_rfl) (fun _ _ _ h => h) (by rfl) ?h714 (by assumption) ?_
                  case h714 => ((intro w hSw; (try dsimp only at hSw); go_simp); try with_reducible rfl)
                  (try simp only [Act.put, List.setIfInBounds_toArray, List.set_cons_succ, List.set_cons_zero])
                  refine wpAnyH_two (i := 22) (j := 24) (by kernel_rfl) rfl rfl (by rfl) (by rfl) (fun K hK => ?_) (fun K hK => ?_)
                  · go_simp
                    refine (G8.out _).mono ?_
                    rintro e w8 ⟨rfl, hB8⟩
                    refine hK.out _ _ (by first | exact bblk (by assumption) hHeld | exact blk_old hHeld _) (fun hHeld => ?_)
                    clear hK K
                    (try simp only [Act.put, List.setIfInBounds_toArray, List.set_cons_succ, List.set_cons_zero])
                    refine wpAnyH_now (i := 23) (v := ?v715) rfl (by kernel_rfl) (by kernel_rfl) (by kernel_rfl) (fun _ _ _ h => h) (by rfl) ?h715 (by assumption) ?_
                    case h715 => ((intro w hSw; (try dsimp only at hSw); go_simp); try with_reducible rfl)
                    (try simp only [Act.put, List.setIfInBounds_toArray, List.set_cons_succ, List.set_cons_zero])
                    refine wpAnyH_only (i := 24) (by kernel_rfl) rfl (by rfl) (fun K hK => ?_)
                    have hRw8 := hHeld
                    go_simp
                    refine hK.out _ _ (by first | exact bblk (by assumption) hHeld | exact blk_old hHeld _) (fun hHeld => ?_)
                    clear hK K
                    (try simp only [Act.put, List.setIfInBounds_toArray, List.set_cons_succ, List.set_cons_zero])
                    have nb := hp_new w8 (.cells #[.int .u8 0, .int .u16 0, .int .u32 0, .int .u16 0, .int .u16 0, .int .u16 0, .int .u16 0, .int .u16 0] 51) rfl
                    have n0 := cl_of nb 0
                    have n1 := cl_of nb 1
                    have n2 := cl_of nb 2
                    have n3 := cl_of nb 3
                    have n4 := cl_of nb 4
                    have n5 := cl_of nb 5
                    have n6 := cl_of nb 6
                    have n7 := cl_of nb 7
                    have z0 := fz_of nb 0
                    have z1 := fz_of nb 1
                    have z2 := fz_of nb 2
                    have z3 := fz_of nb 3
                    have z4 := fz_of nb 4
                    have z5 := fz_of nb 5
                    have z6 := fz_of nb 6
                    have z7 := fz_of nb 7
                    have hlt : w.heap.size < w8.heap.size := blk_lt hRw8
                    refine wpAnyH_only (i := 25) (by kernel_rfl) rfl (by rfl) (fun K hK => ?_)
                    go_simp
                    refine hK.out _ _ (by exact blk_old hRw8 _) (fun hHeld => ?_)
                    clear hK K
                    (try simp only [Act.put, List.setIfInBounds_toArray, List.set_cons_succ, List.set_cons_zero])
                    refine wpAnyH_done (by kernel_rfl) ?_ _
                    refine NoPanic.normal ?_
                    obtain ⟨nv, hnv⟩ : ∃ k, w8.heap.size = k := ⟨_, rfl⟩
                    rw [hnv]
                    exact ⟨rfl, nv, rfl, by subst hnv; exact ⟨hp_new _ _ rfl, hlt, hHeld, bal (bt (bt (bt (bt (bt (bt (bt (bt (B0) hB1) hB2) hB3) hB4) hB5) hB6) hB7) hB8) _⟩⟩
                  · have hRw7 := hHeld
                    go_simp
                    refine hK.out _ _ (by first | exact bblk (by assumption) hHeld | exact blk_old hHeld _) (fun hHeld => ?_)
                    clear hK K
                    (try simp only [Act.put, List.setIfInBounds_toArray, List.set_cons_succ, List.set_cons_zero])
                    have nb := hp_new w7 (.cells #[.int .u8 0, .int .u16 0, .int .u32 0, .int .u16 0, .int .u16 0, .int .u16 0, .int .u16 0, .int .u16 0] 51) rfl
                    refine wpAnyH_only (i := 22) (by kernel_rfl) rfl (by rfl) (fun K hK => ?_)
                    go_simp
                    refine (G8.out _).mono ?_
                    rintro e w8 ⟨rfl, hB8⟩
                    refine hK.out _ _ (by first | exact bblk (by assumption) hHeld | exact blk_old hHeld _) (fun hHeld => ?_)
                    clear hK K
                    (try simp only [Act.put, List.setIfInBounds_toArray, List.set_cons_succ, List.set_cons_zero])
                    have nb8 := bblk hB8 nb
                    refine wpAnyH_now (i := 23) (v := ?v716) rfl (by kernel_rfl) (by kernel_rfl) (by kernel_rfl) (fun _ _ _ h => h) (by rfl) ?h716 (by assumption) ?_
                    case h716 => ((intro w hSw; (try dsimp only at hSw); go_simp); try with_reducible rfl)
                    (try simp only [Act.put, List.setIfInBounds_toArray, List.set_cons_succ, List.set_cons_zero])
                    have n0 := cl_of nb8 0
                    have n1 := cl_of nb8 1
                    have n2 := cl_of nb8 2
                    have n3 := cl_of nb8 3
                    have n4 := cl_of nb8 4
                    have n5 := cl_of nb8 5
                    have n6 := cl_of nb8 6
                    have n7 := cl_of nb8 7
                    have z0 := fz_of nb8 0
                    have z1 := fz_of nb8 1
                    have z2 := fz_of nb8 2
                    have z3 := fz_of nb8 3
                    have z4 := fz_of nb8 4
                    have z5 := fz_of nb8 5
                    have z6 := fz_of nb8 6
                    have z7 := fz_of nb8 7
                    have hB := bt (bal (bt (bt (bt (bt (bt (bt (bt (B0) hB1) hB2) hB3) hB4) hB5) hB6) hB7) _) hB8
                    have hlt : w.heap.size < w7.heap.size := blk_lt hRw7
                    refine wpAnyH_only (i := 25) (by kernel_rfl) rfl (by rfl) (fun K hK => ?_)
                    go_simp
                    refine hK.out _ _ (by exact blk_set (blk_set (blk_set (blk_set (blk_set (blk_set (blk_set (blk_set hHeld (by show w.heap.size ≠ w7.heap.size; omega) _) (by show w.heap.size ≠ w7.heap.size; omega) _) (by show w.heap.size ≠ w7.heap.size; omega) _) (by show w.heap.size ≠ w7.heap.size; omega) _) (by show w.heap.size ≠ w7.heap.size; omega) _) (by show w.heap.size ≠ w7.heap.size; omega) _) (by show w.heap.size ≠ w7.heap.size; omega) _) (by show w.heap.size ≠ w7.heap.size; omega) _) (fun hHeld => ?_)
                    clear hK K
                    (try simp only [Act.put, List.setIfInBounds_toArray, List.set_cons_succ, List.set_cons_zero])
                    refine wpAnyH_done (by kernel_rfl) ?_ _
                    refine NoPanic.normal ?_
                    obtain ⟨nv, hnv⟩ : ∃ k, w7.heap.size = k := ⟨_, rfl⟩
                    rw [hnv]
                    exact ⟨rfl, nv, rfl, by subst hnv; exact ⟨set8_blk nb8 _ _ _ _ _ _ _ _, hlt, hHeld, ((((((((hB).setCell (by show w.heap.size ≤ w7.heap.size; omega) _).setCell (by show w.heap.size ≤ w7.heap.size; omega) _).setCell (by show w.heap.size ≤ w7.heap.size; omega) _).setCell (by show w.heap.size ≤ w7.heap.size; omega) _).setCell (by show w.heap.size ≤ w7.heap.size; omega) _).setCell (by show w.heap.size ≤ w7.heap.size; omega) _).setCell (by show w.heap.size ≤ w7.heap.size; omega) _).setCell (by show w.heap.size ≤ w7.heap.size; omega) _⟩⟩
                · have hRw6 := hHeld
                  go_simp
                  refine hK.out _ _ (by first | exact bblk (by assumption) hHeld | exact blk_old hHeld _) (fun hHeld => ?_)
                  clear hK K
                  (try simp only [Act.put, List.setIfInBounds_toArray, List.set_cons_succ, List.set_cons_zero])
                  have nb := hp_new w6 (.cells #[.int .u8 0, .int .u16 0, .int .u32 0, .int .u16 0, .int .u16 0, .int .u16 0, .int .u16 0, .int .u16 0] 51) rfl
                  refine wpAnyH_only (i := 19) (by kernel_rfl) rfl (by rfl) (fun K hK => ?_)
                  go_simp
                  refine (G7.out _).mono ?_
                  rintro e w7 ⟨rfl, hB7⟩
                  refine hK.out _ _ (by first | exact bblk (by assumption) hHeld | exact blk_old hHeld _) (fun hHeld => ?_)
                  clear hK K
                  (try simp only [Act.put, List.setIfInBounds_toArray, List.set_cons_succ, List.set_cons_zero])
                  have nb7 := bblk hB7 nb
                  refine wpAnyH_now (i := 20) (v := ?v717) rfl (by kernel_rfl) (by kernel_rfl) (by kernel_rfl) (fun _ _ _ h => h) (by rfl) ?h717 (by assumption) ?_
                  case h717 => ((intro w hSw; (try dsimp only at hSw); go_simp); try with_reducible rfl)
                  (try simp only [Act.put, List.setIfInBounds_toArray, List.set_cons_succ, List.set_cons_zero])
                  refine wpAnyH_only (i := 22) (by kernel_rfl) rfl (by rfl) (fun K hK => ?_)
                  go_simp
                  refine (G8.out _).mono ?_
                  rintro e w8 ⟨rfl, hB8⟩
                  refine hK.out _ _ (by first | exact bblk (by assumption) hHeld | exact blk_old hHeld _) (fun hHeld => ?_)
                  clear hK K
                  (try simp only [Act.put, List.setIfInBounds_toArray, List.set_cons_succ, List.set_cons_zero])
                  have nb8 := bblk hB8 nb7
                  refine wpAnyH_now (i := 23) (v := ?v718) rfl (by kernel_rfl) (by kernel_rfl) (by kernel_rfl) (fun _ _ _ h => h) (by rfl) ?h718 (by assumption) ?_
                  case h718 => ((intro w hSw; (try dsimp only at hSw); go_simp); try with_reducible rfl)
                  (try simp only [Act.put, List.setIfInBounds_toArray, List.set_cons_succ, List.set_cons_zero])
                  have n0 := cl_of nb8 0
                  have n1 := cl_of nb8 1
                  have n2 := cl_of nb8 2
                  have n3 := cl_of nb8 3
                  have n4 := cl_of nb8 4
                  have n5 := cl_of nb8 5
                  have n6 := cl_of nb8 6
                  have n7 := cl_of nb8 7
                  have z0 := fz_of nb8 0
                  have z1 := fz_of nb8 1
                  have z2 := fz_of nb8 2
                  have z3 := fz_of nb8 3
                  have z4 := fz_of nb8 4
                  have z5 := fz_of nb8 5
                  have z6 := fz_of nb8 6
                  have z7 := fz_of nb8 7
                  have hB := bt (bt (bal (bt (bt (bt (bt (bt (bt (B0) hB1) hB2) hB3) hB4) hB5) hB6) _) hB7) hB8
                  have hlt : w.heap.size < w6.heap.size := blk_lt hRw6
                  refine wpAnyH_only (i := 25) (by kernel_rfl) rfl (by rfl) (fun K hK => ?_)
                  go_simp
                  refine hK.out _ _ (by exact blk_set (blk_set (blk_set (blk_set (blk_set (blk_set (blk_set (blk_set hHeld (by show w.heap.size ≠ w6.heap.size; omega) _) (by show w.heap.size ≠ w6.heap.size; omega) _) (by show w.heap.size ≠ w6.heap.size; omega) _) (by show w.heap.size ≠ w6.heap.size; omega) _) (by show w.heap.size ≠ w6.heap.size; omega) _) (by show w.heap.size ≠ w6.heap.size; omega) _) (by show w.heap.size ≠ w6.heap.size; omega) _) (by show w.heap.size ≠ w6.heap.size; omega) _) (fun hHeld => ?_)
                  clear hK K
                  (try simp only [Act.put, List.setIfInBounds_toArray, List.set_cons_succ, List.set_cons_zero])
                  refine wpAnyH_done (by kernel_rfl) ?_ _
                  refine NoPanic.normal ?_
                  obtain ⟨nv, hnv⟩ : ∃ k, w6.heap.size = k := ⟨_, rfl⟩
                  rw [hnv]
                  exact ⟨rfl, nv, rfl, by subst hnv; exact ⟨set8_blk nb8 _ _ _ _ _ _ _ _, hlt, hHeld, ((((((((hB).setCell (by show w.heap.size ≤ w6.heap.size; omega) _).setCell (by show w.heap.size ≤ w6.heap.size; omega) _).setCell (by show w.heap.size ≤ w6.heap.size; omega) _).setCell (by show w.heap.size ≤ w6.heap.size; omega) _).setCell (by show w.heap.size ≤ w6.heap.size; omega) _).setCell (by show w.heap.size ≤ w6.heap.size; omega) _).setCell (by show w.heap.size ≤ w6.heap.size; omega) _).setCell (by show w.heap.size ≤ w6.heap.size; omega) _⟩⟩
              · have hRw5 := hHeld
                go_simp
                refine hK.out _ _ (by first | exact bblk (by assumption) hHeld | exact blk_old hHeld _) (fun hHeld => ?_)
                clear hK K
                (try simp only [Act.put, List.setIfInBounds_toArray, List.set_cons_succ, List.set_cons_zero])
                have nb := hp_new w5 (.cells #[.int .u8 0, .int .u16 0, .int .u32 0, .int .u16 0, .int .u16 0, .int .u16 0, .int .u16 0, .int .u16 0] 51) rfl
                refine wpAnyH_only (i := 17) (by kernel_rfl) rfl (by rfl) (fun K hK => ?_)
                go_simp
                refine (G6.out _).mono ?_
                rintro e w6 ⟨rfl, hB6⟩
                refine hK.out _ _ (by first | exact bblk (by assumption) hHeld | exact blk_old hHeld _) (fun hHeld => ?_)
                clear hK K
                (try simp only [Act.put, List.setIfInBounds_toArray, List.set_cons_succ, List.set_cons_zero])
                have nb6 := bblk hB6 nb
                refine wpAnyH_only (i := 19) (by kernel_rfl) rfl (by rfl) (fun K hK => ?_)
                go_simp
                refine (G7.out _).mono ?_
                rintro e w7 ⟨rfl, hB7⟩
                refine hK.out _ _ (by first | exact bblk (by assumption) hHeld | exact blk_old hHeld _) (fun hHeld => ?_)
                clear hK K
                (try simp only [Act.put, List.setIfInBounds_toArray, List.set_cons_succ, List.set_cons_zero])
                have nb7 := bblk hB7 nb6
                refine wpAnyH_now (i := 20) (v := ?v719) rfl (by kernel_rfl) (by kernel_rfl) (by kernel_rfl) (fun _ _ _ h => h) (by rfl) ?h719 (by assumption) ?_
                case h719 => ((intro w hSw; (try dsimp only at hSw); go_simp); try with_reducible rfl)
                (try simp only [Act.put, List.setIfInBounds_toArray, List.set_cons_succ, List.set_cons_zero])
                refine wpAnyH_only (i := 22) (by kernel_rfl) rfl (by rfl) (fun K hK => ?_)
                go_simp
                refine (G8.out _).mono ?_
                rintro e w8 ⟨rfl, hB8⟩
                refine hK.out _ _ (by first | exact bblk (by assumption) hHeld | exact blk_old hHeld _) (fun hHeld => ?_)
                clear hK K
                (try simp only [Act.put, List.setIfInBounds_toArray, List.set_cons_succ, List.set_cons_zero])
                have nb8 := bblk hB8 nb7
                refine wpAnyH_now (i := 23) (v := ?v720) rfl (by kernel_rfl) (by kernel_rfl) (by kernel_rfl) (fun _ _ _ h => h) (by rfl) ?h720 (by assumption) ?_
                case h720 => ((intro w hSw; (try dsimp only at hSw); go_simp); try with_reducible rfl)
                (try simp only [Act.put, List.setIfInBounds_toArray, List.set_cons_succ, List.set_cons_zero])
                have n0 := cl_of nb8 0
                have n1 := cl_of nb8 1
                have n2 := cl_of nb8 2
                have n3 := cl_of nb8 3
                have n4 := cl_of nb8 4
                have n5 := cl_of nb8 5
                have n6 := cl_of nb8 6
                have n7 := cl_of nb8 7
                have z0 := fz_of nb8 0
                have z1 := fz_of nb8 1
                have z2 := fz_of nb8 2
                have z3 := fz_of nb8 3
                have z4 := fz_of nb8 4
                have z5 := fz_of nb8 5
                have z6 := fz_of nb8 6
                have z7 := fz_of nb8 7
                have hB := bt (bt (bt (bal (bt (bt (bt (bt (bt (B0) hB1) hB2) hB3) hB4) hB5) _) hB6) hB7) hB8
                have hlt : w.heap.size < w5.heap.size := blk_lt hRw5
                refine wpAnyH_only (i := 25) (by kernel_rfl) rfl (by rfl) (fun K hK => ?_)
                go_simp
                refine hK.out _ _ (by exact blk_set (blk_set (blk_set (blk_set (blk_set (blk_set (blk_set (blk_set hHeld (by show w.heap.size ≠ w5.heap.size; omega) _) (by show w.heap.size ≠ w5.heap.size; omega) _) (by show w.heap.size ≠ w5.heap.size; omega) _) (by show w.heap.size ≠ w5.heap.size; omega) _) (by show w.heap.size ≠ w5.heap.size; omega) _) (by show w.heap.size ≠ w5.heap.size; omega) _) (by show w.heap.size ≠ w5.heap.size; omega) _) (by show w.heap.size ≠ w5.heap.size; omega) _) (fun hHeld => ?_)
                clear hK K
                (try simp only [Act.put, List.setIfInBounds_toArray, List.set_cons_succ, List.set_cons_zero])
                refine wpAnyH_done (by kernel_rfl) ?_ _
                refine NoPanic.normal ?_
                obtain ⟨nv, hnv⟩ : ∃ k, w5.heap.size = k := ⟨_, rfl⟩
                rw [hnv]
                exact ⟨rfl, nv, rfl, by subst hnv; exact ⟨set8_blk nb8 _ _ _ _ _ _ _ _, hlt, hHeld, ((((((((hB).setCell (by show w.heap.size ≤ w5.heap.size; omega) _).setCell (by show w.heap.size ≤ w5.heap.size; omega) _).setCell (by show w.heap.size ≤ w5.heap.size; omega) _).setCell (by show w.heap.size ≤ w5.heap.size; omega) _).setCell (by show w.heap.size ≤ w5.heap.size; omega) _).setCell (by show w.heap.size ≤ w5.heap.size; omega) _).setCell (by show w.heap.size ≤ w5.heap.size; omega) _).setCell (by show w.heap.size ≤ w5.heap.size; omega) _⟩⟩
            · have hRw4 := hHeld
              go_simp
              refine hK.out _ _ (by first | exact bblk (by assumption) hHeld | exact blk_old hHeld _) (fun hHeld => ?_)
              clear hK K
              (try simp only [Act.put, List.setIfInBounds_toArray, List.set_cons_succ, List.set_cons_zero])
              have nb := hp_new w4 (.cells #[.int .u8 0, .int .u16 0, .int .u32 0, .int .u16 0, .int .u16 0, .int .u16 0, .int .u16 0, .int .u16 0] 51) rfl
              refine wpAnyH_only (i := 15) (by kernel_rfl) rfl (by rfl) (fun K hK => ?_)
              go_simp
              refine (G5.out _).mono ?_
              rintro e w5 ⟨rfl, hB5⟩
              refine hK.out _ _ (by first | exact bblk (by assumption) hHeld | exact blk_old hHeld _) (fun hHeld => ?_)
              clear hK K
              (try simp only [Act.put, List.setIfInBounds_toArray, List.set_cons_succ, List.set_cons_zero])
              have nb5 := bblk hB5 nb
              refine wpAnyH_only (i := 17) (by kernel_rfl) rfl (by rfl) (fun K hK => ?_)
              go_simp
              refine (G6.out _).mono ?_
              rintro e w6 ⟨rfl, hB6⟩
              refine hK.out _ _ (by first | exact bblk (by assumption) hHeld | exact blk_old hHeld _) (fun hHeld => ?_)
              clear hK K
              (try simp only [Act.put, List.setIfInBounds_toArray, List.set_cons_succ, List.set_cons_zero])
              have nb6 := bblk hB6 nb5
              refine wpAnyH_only (i := 19) (by kernel_rfl) rfl (by rfl) (fun K hK => ?_)
              go_simp
              refine (G7.out _).mono ?_
              rintro e w7 ⟨rfl, hB7⟩
              refine hK.out _ _ (by first | exact bblk (by assumption) hHeld | exact blk_old hHeld _) (fun hHeld => ?_)
              clear hK K
              (try simp only [Act.put, List.setIfInBounds_toArray, List.set_cons_succ, List.set_cons_zero])
              have nb7 := bblk hB7 nb6
              refine wpAnyH_now (i := 20) (v := ?v721) rfl (by kernel_rfl) (by kernel_rfl) (by kernel_rfl) (fun _ _ _ h => h) (by rfl) ?h721 (by assumption) ?_
              case h721 => ((intro w hSw; (try dsimp only at hSw); go_simp); try with_reducible rfl)
              (try simp only [Act.put, List.setIfInBounds_toArray, List.set_cons_succ, List.set_cons_zero])
              refine wpAnyH_only (i := 22) (by kernel_rfl) rfl (by rfl) (fun K hK => ?_)
              go_simp
              refine (G8.out _).mono ?_
              rintro e w8 ⟨rfl, hB8⟩
              refine hK.out _ _ (by first | exact bblk (by assumption) hHeld | exact blk_old hHeld _) (fun hHeld => ?_)
              clear hK K
              (try simp only [Act.put, List.setIfInBounds_toArray, List.set_cons_succ, List.set_cons_zero])
              have nb8 := bblk hB8 nb7
              refine wpAnyH_now (i := 23) (v := ?v722) rfl (by kernel_rfl) (by kernel_rfl) (by kernel_rfl) (fun _ _ _ h => h) (by rfl) ?h722 (by assumption) ?_
              case h722 => ((intro w hSw; (try dsimp only at hSw); go_simp); try with_reducible rfl)
              (try simp only [Act.put, List.setIfInBounds_toArray, List.set_cons_succ, List.set_cons_zero])
              have n0 := cl_of nb8 0
              have n1 := cl_of nb8 1
              have n2 := cl_of nb8 2
              have n3 := cl_of nb8 3
              have n4 := cl_of nb8 4
              have n5 := cl_of nb8 5
              have n6 := cl_of nb8 6
              have n7 := cl_of nb8 7
              have z0 := fz_of nb8 0
              have z1 := fz_of nb8 1
              have z2 := fz_of nb8 2
              have z3 := fz_of nb8 3
              have z4 := fz_of nb8 4
              have z5 := fz_of nb8 5
              have z6 := fz_of nb8 6
              have z7 := fz_of nb8 7
              have hB := bt (bt (bt (bt (bal (bt (bt (bt (bt (B0) hB1) hB2) hB3) hB4) _) hB5) hB6) hB7) hB8
              have hlt : w.heap.size < w4.heap.size := blk_lt hRw4
              refine wpAnyH_only (i := 25) (by kernel_rfl) rfl (by rfl) (fun K hK => ?_)
              go_simp
              refine hK.out _ _ (by exact blk_set (blk_set (blk_set (blk_set (blk_set (blk_set (blk_set (blk_set hHeld (by show w.heap.size ≠ w4.heap.size; omega) _) (by show w.heap.size ≠ w4.heap.size; omega) _) (by show w.heap.size ≠ w4.heap.size; omega) _) (by show w.heap.size ≠ w4.heap.size; omega) _) (by show w.heap.size ≠ w4.heap.size; omega) _) (by show w.heap.size ≠ w4.heap.size; omega) _) (by show w.heap.size ≠ w4.heap.size; omega) _) (by show w.heap.size ≠ w4.heap.size; omega) _) (fun hHeld => ?_)
              clear hK K
              (try simp only [Act.put, List.setIfInBounds_toArray, List.set_cons_succ, List.set_cons_zero])
              refine wpAnyH_done (by kernel_rfl) ?_ _
              refine NoPanic.normal ?_
              obtain ⟨nv, hnv⟩ : ∃ k, w4.heap.size = k := ⟨_, rfl⟩
              rw [hnv]
              exact ⟨rfl, nv, rfl, by subst hnv; exact ⟨set8_blk nb8 _ _ _ _ _ _ _ _, hlt, hHeld, ((((((((hB).setCell (by show w.heap.size ≤ w4.heap.size; omega) _).setCell (by show w.heap.size ≤ w4.heap.size; omega) _).setCell (by show w.heap.size ≤ w4.heap.size; omega) _).setCell (by show w.heap.size ≤ w4.heap.size; omega) _).setCell (by show w.heap.size ≤ w4.heap.size; omega) _).setCell (by show w.heap.size ≤ w4.heap.size; omega) _).setCell (by show w.heap.size ≤ w4.heap.size; omega) _).setCell (by show w.heap.size ≤ w4.heap.size; omega) _⟩⟩
          · have hRw3 := hHeld
            go_simp
            refine hK.out _ _ (by first | exact bblk (by assumption) hHeld | exact blk_old hHeld _) (fun hHeld => ?_)
            clear hK K
            (try simp only [Act.put, List.setIfInBounds_toArray, List.set_cons_succ, List.set_cons_zero])
            have nb := hp_new w3 (.cells #[.int .u8 0, .int .u16 0, .int .u32 0, .int .u16 0, .int .u16 0, .int .u16 0, .int .u16 0, .int .u16 0] 51) rfl
            refine wpAnyH_only (i := 13) (by kernel_rfl) rfl (by rfl) (fun K hK => ?_)
            go_simp
            refine (G4.out _).mono ?_
            rintro e w4 ⟨rfl, hB4⟩
            refine hK.out _ _ (by first | exact bblk (by assumption) hHeld | exact blk_old hHeld _) (fun hHeld => ?_)
            clear hK K
            (try simp only [Act.put, List.setIfInBounds_toArray, List.set_cons_succ, List.set_cons_zero])
            have nb4 := bblk hB4 nb
            refine wpAnyH_only (i := 15) (by kernel_rfl) rfl (by rfl) (fun K hK => ?_)
            go_simp
            refine (G5.out _).mono ?_
            rintro e w5 ⟨rfl, hB5⟩
            refine hK.out _ _ (by first | exact bblk (by assumption) hHeld | exact blk_old hHeld _) (fun hHeld => ?_)
            clear hK K
            (try simp only [Act.put, List.setIfInBounds_toArray, List.set_cons_succ, List.set_cons_zero])
            have nb5 := bblk hB5 nb4
            refine wpAnyH_only (i := 17) (by kernel_rfl) rfl (by rfl) (fun K hK => ?_)
            go_simp
            refine (G6.out _).mono ?_
            rintro e w6 ⟨rfl, hB6⟩
            refine hK.out _ _ (by first | exact bblk (by assumption) hHeld | exact blk_old hHeld _) (fun hHeld => ?_)
            clear hK K
            (try simp only [Act.put, List.setIfInBounds_toArray, List.set_cons_succ, List.set_cons_zero])
            have nb6 := bblk hB6 nb5
            refine wpAnyH_only (i := 19) (by kernel_rfl) rfl (by rfl) (fun K hK => ?_)
            go_simp
            refine (G7.out _).mono ?_
            rintro e w7 ⟨rfl, hB7⟩
            refine hK.out _ _ (by first | exact bblk (by assumption) hHeld | exact blk_old hHeld _) (fun hHeld => ?_)
            clear hK K
            (try simp only [Act.put, List.setIfInBounds_toArray, List.set_cons_succ, List.set_cons_zero])
            have nb7 := bblk hB7 nb6
            refine wpAnyH_now (i := 20) (v := ?v723) rfl (by kernel_rfl) (by kernel_rfl) (by kernel_rfl) (fun _ _ _ h => h) (by rfl) ?h723 (by assumption) ?_
            case h723 => ((intro w hSw; (try dsimp only at hSw); go_simp); try with_reducible rfl)
            (try simp only [Act.put, List.setIfInBounds_toArray, List.set_cons_succ, List.set_cons_zero])
            refine wpAnyH_only (i := 22) (by kernel_rfl) rfl (by rfl) (fun K hK => ?_)
            go_simp
            refine (G8.out _).mono ?_
            rintro e w8 ⟨rfl, hB8⟩
            refine hK.out _ _ (by first | exact bblk (by assumption) hHeld | exact blk_old hHeld _) (fun hHeld => ?_)
            clear hK K
            (try simp only [Act.put, List.setIfInBounds_toArray, List.set_cons_succ, List.set_cons_zero])
            have nb8 := bblk hB8 nb7
            refine wpAnyH_now (i := 23) (v := ?v724) rfl (by kernel_rfl) (by kernel_rfl) (by kernel_rfl) (fun _ _ _ h => h) (by rfl) ?h724 (by assumption) ?_
            case h724 => ((intro w hSw; (try dsimp only at hSw); go_simp); try with_reducible rfl)
            (try simp only [Act.put, List.setIfInBounds_toArray, List.set_cons_succ, List.set_cons_zero])
            have n0 := cl_of nb8 0
            have n1 := cl_of nb8 1
            have n2 := cl_of nb8 2
            have n3 := cl_of nb8 3
            have n4 := cl_of nb8 4
            have n5 := cl_of nb8 5
            have n6 := cl_of nb8 6
            have n7 := cl_of nb8 7
            have z0 := fz_of nb8 0
            have z1 := fz_of nb8 1
            have z2 := fz_of nb8 2
            have z3 := fz_of nb8 3
            have z4 := fz_of nb8 4
            have z5 := fz_of nb8 5
            have z6 := fz_of nb8 6
            have z7 := fz_of nb8 7
            have hB := bt (bt (bt (bt (bt (bal (bt (bt (bt (B0) hB1) hB2) hB3) _) hB4) hB5) hB6) hB7) hB8
            have hlt : w.heap.size < w3.heap.size := blk_lt hRw3
            refine wpAnyH_only (i := 25) (by kernel_rfl) rfl (by rfl) (fun K hK => ?_)
            go_simp
            refine hK.out _ _ (by exact blk_set (blk_set (blk_set (blk_set (blk_set (blk_set (blk_set (blk_set hHeld (by show w.heap.size ≠ w3.heap.size; omega) _) (by show w.heap.size ≠ w3.heap.size; omega) _) (by show w.heap.size ≠ w3.heap.size; omega) _) (by show w.heap.size ≠ w3.heap.size; omega) _) (by show w.heap.size ≠ w3.heap.size; omega) _) (by show w.heap.size ≠ w3.heap.size; omega) _) (by show w.heap.size ≠ w3.heap.size; omega) _) (by show w.heap.size ≠ w3.heap.size; omega) _) (fun hHeld => ?_)
            clear hK K
            (try simp only [Act.put, List.setIfInBounds_toArray, List.set_cons_succ, List.set_cons_zero])
            refine wpAnyH_done (by kernel_rfl) ?_ _
            refine NoPanic.normal ?_
            obtain ⟨nv, hnv⟩ : ∃ k, w3.heap.size = k := ⟨_, rfl⟩
            rw [hnv]
            exact ⟨rfl, nv, rfl, by subst hnv; exact ⟨set8_blk nb8 _ _ _ _ _ _ _ _, hlt, hHeld, ((((((((hB).setCell (by show w.heap.size ≤ w3.heap.size; omega) _).setCell (by show w.heap.size ≤ w3.heap.size; omega) _).setCell (by show w.heap.size ≤ w3.heap.size; omega) _).setCell (by show w.heap.size ≤ w3.heap.size; omega) _).setCell (by show w.heap.size ≤ w3.heap.size; omega) _).setCell (by show w.heap.size ≤ w3.heap.size; omega) _).setCell (by show w.heap.size ≤ w3.heap.size; omega) _).setCell (by show w.heap.size ≤ w3.heap.size; omega) _⟩⟩
        · have hRw2 := hHeld
          go_simp
          refine hK.out _ _ (by first | exact bblk (by assumption) hHeld | exact blk_old hHeld _) (fun hHeld => ?_)
          clear hK K
          (try simp only [Act.put, List.setIfInBounds_toArray, List.set_cons_succ, List.set_cons_zero])
          have nb := hp_new w2 (.cells #[.int .u8 0, .int .u16 0, .int .u32 0, .int .u16 0, .int .u16 0, .int .u16 0, .int .u16 0, .int .u16 0] 51) rfl
          refine wpAnyH_only (i := 8) (by kernel_rfl) rfl (by rfl) (fun K hK => ?_)
          go_simp
          refine (G3.out _).mono ?_
          rintro e w3 ⟨rfl, hB3⟩
          refine hK.out _ _ (by first | exact bblk (by assumption) hHeld | exact blk_old hHeld _) (fun hHeld => ?_)
          clear hK K
          (try simp only [Act.put, List.setIfInBounds_toArray, List.set_cons_succ, List.set_cons_zero])
          have nb3 := bblk hB3 nb
          refine wpAnyH_now (i := 9) (v := ?v725) rfl (by kernel_rfl) (by kernel_rfl) (by kernel_rfl) (fun _ _ _ h => h) (by rfl) ?h725 (by assumption) ?_
          case h725 => ((intro w hSw; (try dsimp only at hSw); go_simp); try with_reducible rfl)
          (try simp only [Act.put, List.setIfInBounds_toArray, List.set_cons_succ, List.set_cons_zero])
          refine wpAnyH_now (i := 10) (v := ?v726) rfl (by kernel_rfl) (by kernel_rfl) (by kernel_rfl) (fun _ _ _ h => h) (by rfl) ?h726 (by assumption) ?_
          case h726 => ((intro w hSw; (try dsimp only at hSw); go_simp); try with_reducible rfl)
          (try simp only [Act.put, List.setIfInBounds_toArray, List.set_cons_succ, List.set_cons_zero])
          refine wpAnyH_now (i := 11) (v := ?v727) rfl (by kernel_rfl) (by kernel_rfl) (by kernel_rfl) (fun _ _ _ h => h) (by rfl) ?h727 (by assumption) ?_
          case h727 => ((intro w hSw; (try dsimp only at hSw); go_simp); try with_reducible rfl)
          (try simp only [Act.put, List.setIfInBounds_toArray, List.set_cons_succ, List.set_cons_zero])
          refine wpAnyH_only (i := 13) (by kernel_rfl) rfl (by rfl) (fun K hK => ?_)
          go_simp
          refine (G4.out _).mono ?_
          rintro e w4 ⟨rfl, hB4⟩
          refine hK.out _ _ (by first | exact bblk (by assumption) hHeld | exact blk_old hHeld _) (fun hHeld => ?_)
          clear hK K
          (try simp only [Act.put, List.setIfInBounds_toArray, List.set_cons_succ, List.set_cons_zero])
          have nb4 := bblk hB4 nb3
          refine wpAnyH_only (i := 15) (by kernel_rfl) rfl (by rfl) (fun K hK => ?_)
          go_simp
          refine (G5.out _).mono ?_
          rintro e w5 ⟨rfl, hB5⟩
          refine hK.out _ _ (by first | exact bblk (by assumption) hHeld | exact blk_old hHeld _) (fun hHeld => ?_)
          clear hK K
          (try simp only [Act.put, List.setIfInBounds_toArray, List.set_cons_succ, List.set_cons_zero])
          have nb5 := bblk hB5 nb4
          refine wpAnyH_only (i := 17) (by kernel_rfl) rfl (by rfl) (fun K hK => ?_)
          go_simp
          refine (G6.out _).mono ?_
          rintro e w6 ⟨rfl, hB6⟩
          refine hK.out _ _ (by first | exact bblk (by assumption) hHeld | exact blk_old hHeld _) (fun hHeld => ?_)
          clear hK K
          (try simp only [Act.put, List.setIfInBounds_toArray, List.set_cons_succ, List.set_cons_zero])
          have nb6 := bblk hB6 nb5
          refine wpAnyH_only (i := 19) (by kernel_rfl) rfl (by rfl) (fun K hK => ?_)
          go_simp
          refine (G7.out _).mono ?_
          rintro e w7 ⟨rfl, hB7⟩
          refine hK.out _ _ (by first | exact bblk (by assumption) hHeld | exact blk_old hHeld _) (fun hHeld => ?_)
          clear hK K
          (try simp only [Act.put, List.setIfInBounds_toArray, List.set_cons_succ, List.set_cons_zero])
          have nb7 := bblk hB7 nb6
          refine wpAnyH_now (i := 20) (v := ?v728) rfl (by kernel_rfl) (by kernel_rfl) (by kernel_rfl) (fun _ _ _ h => h) (by rfl) ?h728 (by assumption) ?_
          case h728 => ((intro w hSw; (try dsimp only at hSw); go_simp); try with_reducible rfl)
          (try simp only [Act.put, List.setIfInBounds_toArray, List.set_cons_succ, List.set_cons_zero])
          refine wpAnyH_only (i := 22) (by kernel_rfl) rfl (by rfl) (fun K hK => ?_)
          go_simp
          refine (G8.out _).mono ?_
          rintro e w8 ⟨rfl, hB8⟩
          refine hK.out _ _ (by first | exact bblk (by assumption) hHeld | exact blk_old hHeld _) (fun hHeld => ?_)
          clear hK K
          (try simp only [Act.put, List.setIfInBounds_toArray, List.set_cons_succ, List.set_cons_zero])
          have nb8 := bblk hB8 nb7
          refine wpAnyH_now (i := 23) (v := ?v729) rfl (by kernel_rfl) (by kernel_rfl) (by kernel_rfl) (fun _ _ _ h => h) (by rfl) ?h729 (by assumption) ?_
          case h729 => ((intro w hSw; (try dsimp only at hSw); go_simp); try with_reducible rfl)
          (try simp only [Act.put, List.setIfInBounds_toArray, List.set_cons_succ, List.set_cons_zero])
          have n0 := cl_of nb8 0
          have n1 := cl_of nb8 1
          have n2 := cl_of nb8 2
          have n3 := cl_of nb8 3
          have n4 := cl_of nb8 4
          have n5 := cl_of nb8 5
          have n6 := cl_of nb8 6
          have n7 := cl_of nb8 7
          have z0 := fz_of nb8 0
          have z1 := fz_of nb8 1
          have z2 := fz_of nb8 2
          have z3 := fz_of nb8 3
          have z4 := fz_of nb8 4
          have z5 := fz_of nb8 5
          have z6 := fz_of nb8 6
          have z7 := fz_of nb8 7
          have hB := bt (bt (bt (bt (bt (bt (bal (bt (bt (B0) hB1) hB2) _) hB3) hB4) hB5) hB6) hB7) hB8
          have hlt : w.heap.size < w2.heap.size := blk_lt hRw2
          refine wpAnyH_only (i := 25) (by kernel_rfl) rfl (by rfl) (fun K hK => ?_)
          go_simp
          refine hK.out _ _ (by exact blk_set (blk_set (blk_set (blk_set (blk_set (blk_set (blk_set (blk_set hHeld (by show w.heap.size ≠ w2.heap.size; omega) _) (by show w.heap.size ≠ w2.heap.size; omega) _) (by show w.heap.size ≠ w2.heap.size; omega) _) (by show w.heap.size ≠ w2.heap.size; omega) _) (by show w.heap.size ≠ w2.heap.size; omega) _) (by show w.heap.size ≠ w2.heap.size; omega) _) (by show w.heap.size ≠ w2.heap.size; omega) _) (by show w.heap.size ≠ w2.heap.size; omega) _) (fun hHeld => ?_)
          clear hK K
          (try simp only [Act.put, List.setIfInBounds_toArray, List.set_cons_succ, List.set_cons_zero])
          refine wpAnyH_done (by kernel_rfl) ?_ _
          refine NoPanic.normal ?_
          obtain ⟨nv, hnv⟩ : ∃ k, w2.heap.size = k := ⟨_, rfl⟩
          rw [hnv]
          exact ⟨rfl, nv, rfl, by subst hnv; exact ⟨set8_blk nb8 _ _ _ _ _ _ _ _, hlt, hHeld, ((((((((hB).setCell (by show w.heap.size ≤ w2.heap.size; omega) _).setCell (by show w.heap.size ≤ w2.heap.size; omega) _).setCell (by show w.heap.size ≤ w2.heap.size; omega) _).setCell (by show w.heap.size ≤ w2.heap.size; omega) _).setCell (by show w.heap.size ≤ w2.heap.size; omega) _).setCell (by show w.heap.size ≤ w2.heap.size; omega) _).setCell (by show w.heap.size ≤ w2.heap.size; omega) _).setCell (by show w.heap.size ≤ w2.heap.size; omega) _⟩⟩
      · have hRw1 := hHeld
        go_simp
        refine hK.out _ _ (by first | exact bblk (by assumption) hHeld | exact blk_old hHeld _) (fun hHeld => ?_)
        clear hK K
        (try simp only [Act.put, List.setIfInBounds_toArray, List.set_cons_succ, List.set_cons_zero])
        have nb := hp_new w1 (.cells #[.int .u8 0, .int .u16 0, .int .u32 0, .int .u16 0, .int .u16 0, .int .u16 0, .int .u16 0, .int .u16 0] 51) rfl
        refine wpAnyH_only (i := 5) (by kernel_rfl) rfl (by rfl) (fun K hK => ?_)
        go_simp
        refine (G2.out _).mono ?_
        rintro e w2 ⟨rfl, hB2⟩
        refine hK.out _ _ (by first | exact bblk (by assumption) hHeld | exact blk_old hHeld _) (fun hHeld => ?_)
        clear hK K
        (try simp only [Act.put, List.setIfInBounds_toArray, List.set_cons_succ, List.set_cons_zero])
        have nb2 := bblk hB2 nb
        refine wpAnyH_now (i := 6) (v := ?v730) rfl (by kernel_rfl) (by kernel_rfl) (by kernel_rfl) (fun _ _ _ h => h) (by rfl) ?h730 (by assumption) ?_
        case h730 => ((intro w hSw; (try dsimp only at hSw); go_simp); try with_reducible rfl)
        (try simp only [Act.put, List.setIfInBounds_toArray, List.set_cons_succ, List.set_cons_zero])
        refine wpAnyH_only (i := 8) (by kernel_rfl) rfl (by rfl) (fun K hK => ?_)
        go_simp
        refine (G3.out _).mono ?_
        rintro e w3 ⟨rfl, hB3⟩
        refine hK.out _ _ (by first | exact bblk (by assumption) hHeld | exact blk_old hHeld _) (fun hHeld => ?_)
        clear hK K
        (try simp only [Act.put, List.setIfInBounds_toArray, List.set_cons_succ, List.set_cons_zero])
        have nb3 := bblk hB3 nb2
        refine wpAnyH_now (i := 9) (v := ?v731) rfl (by kernel_rfl) (by kernel_rfl) (by kernel_rfl) (fun _ _ _ h => h) (by rfl) ?h731 (by assumption) ?_
        case h731 => ((intro w hSw; (try dsimp only at hSw); go_simp); try with_reducible rfl)
        (try simp only [Act.put, List.setIfInBounds_toArray, List.set_cons_succ, List.set_cons_zero])
        refine wpAnyH_now (i := 10) (v := ?v732) rfl (by kernel_rfl) (by kernel_rfl) (by kernel_rfl) (fun _ _ _ h => h) (by rfl) ?h732 (by assumption) ?_
        case h732 => ((intro w hSw; (try dsimp only at hSw); go_simp); try with_reducible rfl)
        (try simp only [Act.put, List.setIfInBounds_toArray, List.set_cons_succ, List.set_cons_zero])
        refine wpAnyH_now (i := 11) (v := ?v733) rfl (by kernel_rfl) (by kernel_rfl) (by kernel_rfl) (fun _ _ _ h => h) (by rfl) ?h733 (by assumption) ?_
        case h733 => ((intro w hSw; (try dsimp only at hSw); go_simp); try with_reducible rfl)
        (try simp only [Act.put, List.setIfInBounds_toArray, List.set_cons_succ, List.set_cons_zero])
        refine wpAnyH_only (i := 13) (by kernel_rfl) rfl (by rfl) (fun K hK => ?_)
        go_simp
        refine (G4.out _).mono ?_
        rintro e w4 ⟨rfl, hB4⟩
        refine hK.out _ _ (by first | exact bblk (by assumption) hHeld | exact blk_old hHeld _) (fun hHeld => ?_)
        clear hK K
        (try simp only [Act.put, List.setIfInBounds_toArray, List.set_cons_succ, List.set_cons_zero])
        have nb4 := bblk hB4 nb3
        refine wpAnyH_only (i := 15) (by kernel_rfl) rfl (by rfl) (fun K hK => ?_)
        go_simp
        refine (G5.out _).mono ?_
        rintro e w5 ⟨rfl, hB5⟩
        refine hK.out _ _ (by first | exact bblk (by assumption) hHeld | exact blk_old hHeld _) (fun hHeld => ?_)
        clear hK K
        (try simp only [Act.put, List.setIfInBounds_toArray, List.set_cons_succ, List.set_cons_zero])
        have nb5 := bblk hB5 nb4
        refine wpAnyH_only (i := 17) (by kernel_rfl) rfl (by rfl) (fun K hK => ?_)
        go_simp
        refine (G6.out _).mono ?_
        rintro e w6 ⟨rfl, hB6⟩
        refine hK.out _ _ (by first | exact bblk (by assumption) hHeld | exact blk_old hHeld _) (fun hHeld => ?_)
        clear hK K
        (try simp only [Act.put, List.setIfInBounds_toArray, List.set_cons_succ, List.set_cons_zero])
        have nb6 := bblk hB6 nb5
        refine wpAnyH_only (i := 19) (by kernel_rfl) rfl (by rfl) (fun K hK => ?_)
        go_simp
        refine (G7.out _).mono ?_
        rintro e w7 ⟨rfl, hB7⟩
        refine hK.out _ _ (by first | exact bblk (by assumption) hHeld | exact blk_old hHeld _) (fun hHeld => ?_)
        clear hK K
        (try simp only [Act.put, List.setIfInBounds_toArray, List.set_cons_succ, List.set_cons_zero])
        have nb7 := bblk hB7 nb6
        refine wpAnyH_now (i := 20) (v := ?v734) rfl (by kernel_rfl) (by kernel_rfl) (by kernel_rfl) (fun _ _ _ h => h) (by rfl) ?h734 (by assumption) ?_
        case h734 => ((intro w hSw; (try dsimp only at hSw); go_simp); try with_reducible rfl)
        (try simp only [Act.put, List.setIfInBounds_toArray, List.set_cons_succ, List.set_cons_zero])
        refine wpAnyH_only (i := 22) (by kernel_rfl) rfl (by rfl) (fun K hK => ?_)
        go_simp
        refine (G8.out _).mono ?_
        rintro e w8 ⟨rfl, hB8⟩
        refine hK.out _ _ (by first | exact bblk (by assumption) hHeld | exact blk_old hHeld _) (fun hHeld => ?_)
        clear hK K
        (try simp only [Act.put, List.setIfInBounds_toArray, List.set_cons_succ, List.set_cons_zero])
        have nb8 := bblk hB8 nb7
        refine wpAnyH_now (i := 23) (v := ?v735) rfl (by kernel_rfl) (by kernel_rfl) (by kernel_rfl) (fun _ _ _ h => h) (by rfl) ?h735 (by assumption) ?_
        case h735 => ((intro w hSw; (try dsimp only at hSw); go_simp); try with_reducible rfl)
        (try simp only [Act.put, List.setIfInBounds_toArray, List.set_cons_succ, List.set_cons_zero])
        have n0 := cl_of nb8 0
        have n1 := cl_of nb8 1
        have n2 := cl_of nb8 2
        have n3 := cl_of nb8 3
        have n4 := cl_of nb8 4
        have n5 := cl_of nb8 5
        have n6 := cl_of nb8 6
        have n7 := cl_of nb8 7
        have z0 := fz_of nb8 0
        have z1 := fz_of nb8 1
        have z2 := fz_of nb8 2
        have z3 := fz_of nb8 3
        have z4 := fz_of nb8 4
        have z5 := fz_of nb8 5
        have z6 := fz_of nb8 6
        have z7 := fz_of nb8 7
        have hB := bt (bt (bt (bt (bt (bt (bt (bal (bt (B0) hB1) _) hB2) hB3) hB4) hB5) hB6) hB7) hB8
        have hlt : w.heap.size < w1.heap.size := blk_lt hRw1
        refine wpAnyH_only (i := 25) (by kernel_rfl) rfl (by rfl) (fun K hK => ?_)
        go_simp
        refine hK.out _ _ (by exact blk_set (blk_set (blk_set (blk_set (blk_set (blk_set (blk_set (blk_set hHeld (by show w.heap.size ≠ w1.heap.size; omega) _) (by show w.heap.size ≠ w1.heap.size; omega) _) (by show w.heap.size ≠ w1.heap.size; omega) _) (by show w.heap.size ≠ w1.heap.size; omega) _) (by show w.heap.size ≠ w1.heap.size; omega) _) (by show w.heap.size ≠ w1.heap.size; omega) _) (by show w.heap.size ≠ w1.heap.size; omega) _) (by show w.heap.size ≠ w1.heap.size; omega) _) (fun hHeld => ?_)
        clear hK K
        (try simp only [Act.put, List.setIfInBounds_toArray, List.set_cons_succ, List.set_cons_zero])
        refine wpAnyH_done (by kernel_rfl) ?_ _
        refine NoPanic.normal ?_
        obtain ⟨nv, hnv⟩ : ∃ k, w1.heap.size = k := ⟨_, rfl⟩
        rw [hnv]
        exact ⟨rfl, nv, rfl, by subst hnv; exact ⟨set8_blk nb8 _ _ _ _ _ _ _ _, hlt, hHeld, ((((((((hB).setCell (by show w.heap.size ≤ w1.heap.size; omega) _).setCell (by show w.heap.size ≤ w1.heap.size; omega) _).setCell (by show w.heap.size ≤ w1.heap.size; omega) _).setCell (by show w.heap.size ≤ w1.heap.size; omega) _).setCell (by show w.heap.size ≤ w1.heap.size; omega) _).setCell (by show w.heap.size ≤ w1.heap.size; omega) _).setCell (by show w.heap.size ≤ w1.heap.size; omega) _).setCell (by show w.heap.size ≤ w1.heap.size; omega) _⟩⟩
    · have hRW2 := hHeld
      go_simp
      refine hK.out _ _ (by first | exact bblk (by assumption) hHeld | exact blk_old hHeld _) (fun hHeld => ?_)
      clear hK K
      (try simp only [Act.put, List.setIfInBounds_toArray, List.set_cons_succ, List.set_cons_zero])
      have nb := hp_new W2 (.cells #[.int .u8 0, .int .u16 0, .int .u32 0, .int .u16 0, .int .u16 0, .int .u16 0, .int .u16 0, .int .u16 0] 51) rfl
      refine wpAnyH_only (i := 3) (by kernel_rfl) rfl (by rfl) (fun K hK => ?_)
      go_simp
      refine (G1.out _).mono ?_
      rintro e w1 ⟨rfl, hB1⟩
      refine hK.out _ _ (by first | exact bblk (by assumption) hHeld | exact blk_old hHeld _) (fun hHeld => ?_)
      clear hK K
      (try simp only [Act.put, List.setIfInBounds_toArray, List.set_cons_succ, List.set_cons_zero])
      have nb1 := bblk hB1 nb
      refine wpAnyH_only (i := 5) (by kernel_rfl) rfl (by rfl) (fun K hK => ?_)
      go_simp
      refine (G2.out _).mono ?_
      rintro e w2 ⟨rfl, hB2⟩
      refine hK.out _ _ (by first | exact bblk (by assumption) hHeld | exact blk_old hHeld _) (fun hHeld => ?_)
      clear hK K
      (try simp only [Act.put, List.setIfInBounds_toArray, List.set_cons_succ, List.set_cons_zero])
      have nb2 := bblk hB2 nb1
      refine wpAnyH_now (i := 6) (v := ?v736) rfl (by kernel_rfl) (by kernel_rfl) (by kernel_rfl) (fun _ _ _ h => h) (by rfl) ?h736 (by assumption) ?_
      case h736 => ((intro w hSw; (try dsimp only at hSw); go_simp); try with_reducible rfl)
      (try simp only [Act.put, List.setIfInBounds_toArray, List.set_cons_succ, List.set_cons_zero])
      refine wpAnyH_only (i := 8) (by kernel_rfl) rfl (by rfl) (fun K hK => ?_)
      go_simp
      refine (G3.out _).mono ?_
      rintro e w3 ⟨rfl, hB3⟩
      refine hK.out _ _ (by first | exact bblk (by assumption) hHeld | exact blk_old hHeld _) (fun hHeld => ?_)
      clear hK K
      (try simp only [Act.put, List.setIfInBounds_toArray, List.set_cons_succ, List.set_cons_zero])
      have nb3 := bblk hB3 nb2
      refine wpAnyH_now (i := 9) (v := ?v737) rfl (by kernel_rfl) (by kernel_rfl) (by kernel_rfl) (fun _ _ _ h => h) (by rfl) ?h737 (by assumption) ?_
      case h737 => ((intro w hSw; (try dsimp only at hSw); go_simp); try with_reducible rfl)
      (try simp only [Act.put, List.setIfInBounds_toArray, List.set_cons_succ, List.set_cons_zero])
      refine wpAnyH_now (i := 10) (v := ?v738) rfl (by kernel_rfl) (by kernel_rfl) (by kernel_rfl) (fun _ _ _ h => h) (by rfl) ?h738 (by assumption) ?_
      case h738 => ((intro w hSw; (try dsimp only at hSw); go_simp); try with_reducible rfl)
      (try simp only [Act.put, List.setIfInBounds_toArray, List.set_cons_succ, List.set_cons_zero])
      refine wpAnyH_now (i := 11) (v := ?v739) rfl (by kernel_rfl) (by kernel_rfl) (by kernel_rfl) (fun _ _ _ h => h) (by rfl) ?h739 (by assumption) ?_
      case h739 => ((intro w hSw; (try dsimp only at hSw); go_simp); try with_reducible rfl)
      (try simp only [Act.put, List.setIfInBounds_toArray, List.set_cons_succ, List.set_cons_zero])
      refine wpAnyH_only (i := 13) (by kernel_rfl) rfl (by rfl) (fun K hK => ?_)
      go_simp
      refine (G4.out _).mono ?_
      rintro e w4 ⟨rfl, hB4⟩
      refine hK.out _ _ (by first | exact bblk (by assumption) hHeld | exact blk_old hHeld _) (fun hHeld => ?_)
      clear hK K
      (try simp only [Act.put, List.setIfInBounds_toArray, List.set_cons_succ, List.set_cons_zero])
      have nb4 := bblk hB4 nb3
      refine wpAnyH_only (i := 15) (by kernel_rfl) rfl (by rfl) (fun K hK => ?_)
      go_simp
      refine (G5.out _).mono ?_
      rintro e w5 ⟨rfl, hB5⟩
      refine hK.out _ _ (by first | exact bblk (by assumption) hHeld | exact blk_old hHeld _) (fun hHeld => ?_)
      clear hK K
      (try simp only [Act.put, List.setIfInBounds_toArray, List.set_cons_succ, List.set_cons_zero])
      have nb5 := bblk hB5 nb4
      refine wpAnyH_only (i := 17) (by kernel_rfl) rfl (by rfl) (fun K hK => ?_)
      go_simp
      refine (G6.out _).mono ?_
      rintro e w6 ⟨rfl, hB6⟩
      refine hK.out _ _ (by first | exact bblk (by assumption) hHeld | exact blk_old hHeld _) (fun hHeld => ?_)
      clear hK K
      (try simp only [Act.put, List.setIfInBounds_toArray, List.set_cons_succ, List.set_cons_zero])
      have nb6 := bblk hB6 nb5
      refine wpAnyH_only (i := 19) (by kernel_rfl) rfl (by rfl) (fun K hK => ?_)
      go_simp
      refine (G7.out _).mono ?_
      rintro e w7 ⟨rfl, hB7⟩
      refine hK.out _ _ (by first | exact bblk (by assumption) hHeld | exact blk_old hHeld _) (fun hHeld => ?_)
      clear hK K
      (try simp only [Act.put, List.setIfInBounds_toArray, List.set_cons_succ, List.set_cons_zero])
      have nb7 := bblk hB7 nb6
      refine wpAnyH_now (i := 20) (v := ?v740) rfl (by kernel_rfl) (by kernel_rfl) (by kernel_rfl) (fun _ _ _ h => h) (by rfl) ?h740 (by assumption) ?_
      case h740 => ((intro w hSw; (try dsimp only at hSw); go_simp); try with_reducible rfl)
      (try simp only [Act.put, List.setIfInBounds_toArray, List.set_cons_succ, List.set_cons_zero])
      refine wpAnyH_only (i := 22) (by kernel_rfl) rfl (by rfl) (fun K hK => ?_)
      go_simp
      refine (G8.out _).mono ?_
      rintro e w8 ⟨rfl, hB8⟩
      refine hK.out _ _ (by first | exact bblk (by assumption) hHeld | exact blk_old hHeld _) (fun hHeld => ?_)
      clear hK K
      (try simp only [Act.put, List.setIfInBounds_toArray, List.set_cons_succ, List.set_cons_zero])
      have nb8 := bblk hB8 nb7
      refine wpAnyH_now (i := 23) (v := ?v741) rfl (by kernel_rfl) (by kernel_rfl) (by kernel_rfl) (fun _ _ _ h => h) (by rfl) ?h741 (by assumption) ?_
      case h741 => ((intro w hSw; (try dsimp only at hSw); go_simp); try with_reducible rfl)
      (try simp only [Act.put, List.setIfInBounds_toArray, List.set_cons_succ, List.set_cons_zero])
      have n0 := cl_of nb8 0
      have n1 := cl_of nb8 1
      have n2 := cl_of nb8 2
      have n3 := cl_of nb8 3
      have n4 := cl_of nb8 4
      have n5 := cl_of nb8 5
      have n6 := cl_of nb8 6
      have n7 := cl_of nb8 7
      have z0 := fz_of nb8 0
      have z1 := fz_of nb8 1
      have z2 := fz_of nb8 2
      have z3 := fz_of nb8 3
      have z4 := fz_of nb8 4
      have z5 := fz_of nb8 5
      have z6 := fz_of nb8 6
      have z7 := fz_of nb8 7
      have hB := bt (bt (bt (bt (bt (bt (bt (bt (bal (B0) _) hB1) hB2) hB3) hB4) hB5) hB6) hB7) hB8
      have hlt : w.heap.size < W2.heap.size := blk_lt hRW2
      refine wpAnyH_only (i := 25) (by kernel_rfl) rfl (by rfl) (fun K hK => ?_)
      go_simp
      refine hK.out _ _ (by exact blk_set (blk_set (blk_set (blk_set (blk_set (blk_set (blk_set (blk_set hHeld (by show w.heap.size ≠ W2.heap.size; omega) _) (by show w.heap.size ≠ W2.heap.size; omega) _) (by show w.heap.size ≠ W2.heap.size; omega) _) (by show w.heap.size ≠ W2.heap.size; omega) _) (by show w.heap.size ≠ W2.heap.size; omega) _) (by show w.heap.size ≠ W2.heap.size; omega) _) (by show w.heap.size ≠ W2.heap.size; omega) _) (by show w.heap.size ≠ W2.heap.size; omega) _) (fun hHeld => ?_)
      clear hK K
      (try simp only [Act.put, List.setIfInBounds_toArray, List.set_cons_succ, List.set_cons_zero])
      refine wpAnyH_done (by kernel_rfl) ?_ _
      refine NoPanic.normal ?_
      obtain ⟨nv, hnv⟩ : ∃ k, W2.heap.size = k := ⟨_, rfl⟩
      rw [hnv]
      exact ⟨rfl, nv, rfl, by subst hnv; exact ⟨set8_blk nb8 _ _ _ _ _ _ _ _, hlt, hHeld, ((((((((hB).setCell (by show w.heap.size ≤ W2.heap.size; omega) _).setCell (by show w.heap.size ≤ W2.heap.size; omega) _).setCell (by show w.heap.size ≤ W2.heap.size; omega) _).setCell (by show w.heap.size ≤ W2.heap.size; omega) _).setCell (by show w.heap.size ≤ W2.heap.size; omega) _).setCell (by show w.heap.size ≤ W2.heap.size; omega) _).setCell (by show w.heap.size ≤ W2.heap.size; omega) _).setCell (by show w.heap.size ≤ W2.heap.size; omega) _⟩⟩
  intro nb w5 hmid
  obtain ⟨hg, hlt, hr, hB⟩ := hmid
  have g0 := cl_of hg 0
  have g1 := cl_of hg 1
  have g2 := cl_of hg 2
  have g3 := cl_of hg 3
  have g4 := cl_of hg 4
  have g5 := cl_of hg 5
  have g6 := cl_of hg 6
  have g7 := cl_of hg 7
  go_wp2_with fail
  refine (HMAY.out _).mono ?_
  rintro e w6 ⟨rfl, hB6⟩
  have hg6 := bblk hB6 hg
  have hr6 := bblk hB6 hr
  have B6 := bt hB hB6
  clear g0 g1 g2 g3 g4 g5 g6 g7 hg hr hB hB6
  cases m
  · have hn : ¬ YM := fun h => by cases HM.out.2 h
    have r0 := cl_of hr6 0
    have r1 := cl_of hr6 1
    have r2 := cl_of hr6 2
    have r3 := cl_of hr6 3
    have r4 := cl_of hr6 4
    have r5 := cl_of hr6 5
    have r6 := cl_of hr6 6
    have r7 := cl_of hr6 7
    have z0 := fz_of hr6 0
    have z1 := fz_of hr6 1
    have z2 := fz_of hr6 2
    have z3 := fz_of hr6 3
    have z4 := fz_of hr6 4
    have z5 := fz_of hr6 5
    have z6 := fz_of hr6 6
    have z7 := fz_of hr6 7
    go_wp2_with fail
    refine bodyPost_ret (v := .tuple #[.agg #[.int .u8 0, .int .u16 0, .int .u32 0, .int .u16 0, .int .u16 0, .int .u16 0, .int .u16 0, .int .u16 0], .int .i64 7]) (by simp [results, Try.results32, go_sem, r0, r1, r2, r3, r4, r5, r6, r7]) rfl ⟨?_, fun h => absurd h.1 hn, fun _ => rfl⟩
    exact ((((((((B6.setCell (Nat.le_refl _) _).setCell (Nat.le_refl _) _).setCell (Nat.le_refl _) _).setCell (Nat.le_refl _) _).setCell (Nat.le_refl _) _).setCell (Nat.le_refl _) _).setCell (Nat.le_refl _) _).setCell (Nat.le_refl _) _)
  · have hyes : YM := HM.out.1 rfl
    have g0 := cl_of hg6 0
    have g1 := cl_of hg6 1
    have g2 := cl_of hg6 2
    have g3 := cl_of hg6 3
    have g4 := cl_of hg6 4
    have g5 := cl_of hg6 5
    have g6 := cl_of hg6 6
    have g7 := cl_of hg6 7
    go_wp2_with fail
    refine (HPUT.out _).mono ?_
    rintro e w7 ⟨rfl, hB7⟩
    have hg7 := bblk hB7 hg6
    have hr7 := bblk hB7 hr6
    have B7 := bt B6 hB7
    clear g0 g1 g2 g3 g4 g5 g6 g7 hg6 hr6 B6 hB7
    have g0 := cl_of hg7 0
    have g1 := cl_of hg7 1
    have g2 := cl_of hg7 2
    have g3 := cl_of hg7 3
    have g4 := cl_of hg7 4
    have g5 := cl_of hg7 5
    have g6 := cl_of hg7 6
    have g7 := cl_of hg7 7
    have r0 := cl_of hr7 0
    have r1 := cl_of hr7 1
    have r2 := cl_of hr7 2
    have r3 := cl_of hr7 3
    have r4 := cl_of hr7 4
    have r5 := cl_of hr7 5
    have r6 := cl_of hr7 6
    have r7 := cl_of hr7 7
    have z0 := fz_of hr7 0
    have z1 := fz_of hr7 1
    have z2 := fz_of hr7 2
    have z3 := fz_of hr7 3
    have z4 := fz_of hr7 4
    have z5 := fz_of hr7 5
    have z6 := fz_of hr7 6
    have z7 := fz_of hr7 7
    by_cases he : yb = l
    · have HE := Lib.hid he
      clear he
      rw [HE.out]
      go_wp2_with fail
      refine bodyPost_ret (v := .tuple #[.agg #[.int .u8 V0, .int .u16 V1, .int .u32 (V2 + 65536 * V3), .int .u16 V4, .int .u16 V5, .int .u16 V6, .int .u16 V7, .int .u16 V8], .int .i64 0]) (by simp [results, Try.results32, go_sem, g0, r0, g1, r1, g2, r2, g3, r3, g4, r4, g5, r5, g6, r6, g7, r7]) rfl ⟨?_, fun _ => rfl, fun hn => absurd ⟨hyes, HE.out⟩ hn⟩
      exact ((((((((B7.setCell (Nat.le_refl _) _).setCell (Nat.le_refl _) _).setCell (Nat.le_refl _) _).setCell (Nat.le_refl _) _).setCell (Nat.le_refl _) _).setCell (Nat.le_refl _) _).setCell (Nat.le_refl _) _).setCell (Nat.le_refl _) _)
    · have HE := Lib.hid (bs_ne' he)
      have HN := Lib.hid he
      clear he
      have hq2 := HE.out
      clear HE
      go_wp2_with fail
      refine bodyPost_ret (v := .tuple #[.agg #[.int .u8 0, .int .u16 0, .int .u32 0, .int .u16 0, .int .u16 0, .int .u16 0, .int .u16 0, .int .u16 0], .int .i64 7]) (by simp [results, Try.results32, go_sem, r0, r1, r2, r3, r4, r5, r6, r7]) rfl ⟨?_, fun hn => absurd hn.2 HN.out, fun _ => rfl⟩
      exact ((((((((B7.setCell (Nat.le_refl _) _).setCell (Nat.le_refl _) _).setCell (Nat.le_refl _) _).setCell (Nat.le_refl _) _).setCell (Nat.le_refl _) _).setCell (Nat.le_refl _) _).setCell (Nat.le_refl _) _).setCell (Nat.le_refl _) _)
end Go.Proofs.Ytcdmipgopffaaaa
