/- The document's answer for package inode: the walks through Put and Get. -/
import Derived.Test.YtcdmipgopffaaaaInoRef2
namespace Go.Proofs.Ytcdmipgopffaaaa
open Go.RowKit
set_option maxRecDepth 20000
set_option linter.unusedVariables false
set_option linter.unusedSimpArgs false

theorem conv_blk {W : World} {b : Nat} {l : List UInt8} (h : W.heap[b]? = some (.cells (bc l) 5 (0, 0))) {n : Nat} (hn : l.length = n) : (convert 31 9 (.slice (some ⟨b, 0, none⟩) n n)).run Try.prog W = .ok (.string (bs l)) W := by
  subst hn
  exact run_convert_bytes_back (P := Try.prog) W 31 9 5 ⟨b, 0, none⟩ l.length l Try.underlying31 Try.underlying5 Try.underlying9 (fun j hj => by
    rw [Addr.add_lit, Nat.zero_add]
    exact (cl_of h j).trans (bc_get hj))
def p4 (x : Ino) : List UInt8 := bytesLE x.k.toNat 2 ++ bytesLE x.l.toNat 2 ++ bytesLE (x.s % 65536).toNat 2 ++ bytesLE (x.s / 65536).toNat 2
theorem p4_length (x : Ino) : (p4 x).length = 8 := by simp [p4, bytesLE_length]
theorem p4_nums (x : Ino) : p4 x ++ pby x.ds = pby x.nums := by simp [p4, pby, Ino.nums, Ino.ds]

set_option maxHeartbeats 8000000 in
theorem rput_ino (x : Ino) (hw : x.Wf) (w : World) : Calls Try.prog 41 #[.agg (ic x)] w fun e w' => e = .returned (.string (bs x.bytes)) ∧ Below w.heap.size w w' := by
  have hbd := ds_bd hw
  have hbl := rblocks_any x
  obtain ⟨wk, wl, ws, -⟩ := hw
  have e2 : IntKind.u16.wrap x.s = x.s % 65536 := by simp [IntKind.wrap_u16]
  have e3 : IntKind.u16.wrap (x.s / 65536) = x.s / 65536 := IntWalk.u16_in _ (by omega)
  have hb0 : bc (bytesLE x.k.toNat 2) = #[.int .u8 x.k, .int .u8 0] := by
    rw [bytes2]
    simp only [bc, List.map_cons, List.map_nil]
    have e0 : ((UInt8.ofNat (x.k.toNat % 256)).toNat : Int) = x.k := by simp; omega
    have e1 : ((UInt8.ofNat (x.k.toNat / 256 % 256)).toNat : Int) = 0 := by simp; omega
    rw [e0, e1]
  have n1 := rtwo_any x.l wl.1 wl.2
  have n2 := rtwo_any (x.s % 65536) (by omega) (by omega)
  have n3 := rtwo_any (x.s / 65536) (by omega) (by omega)
  have a1 := bs_append (bytesLE x.k.toNat 2) (bytesLE x.l.toNat 2)
  have a2 := bs_append (bytesLE x.k.toNat 2 ++ bytesLE x.l.toNat 2) (bytesLE (x.s % 65536).toNat 2)
  have a3 := bs_append (bytesLE x.k.toNat 2 ++ bytesLE x.l.toNat 2 ++ bytesLE (x.s % 65536).toNat 2) (bytesLE (x.s / 65536).toNat 2)
  have s0 : (bs (bytesLE x.k.toNat 2)).size = 2 := by rw [bs_size, bytesLE_length]
  have s1 : (bs (bytesLE x.l.toNat 2)).size = 2 := by rw [bs_size, bytesLE_length]
  have s2 : (bs (bytesLE (x.s % 65536).toNat 2)).size = 2 := by rw [bs_size, bytesLE_length]
  have s3 : (bs (bytesLE (x.s / 65536).toNat 2)).size = 2 := by rw [bs_size, bytesLE_length]
  have t1 : (bs (bytesLE x.k.toNat 2 ++ bytesLE x.l.toNat 2)).size = 4 := by rw [bs_size, List.length_append, bytesLE_length, bytesLE_length]
  have t2 : (bs (bytesLE x.k.toNat 2 ++ bytesLE x.l.toNat 2 ++ bytesLE (x.s % 65536).toNat 2)).size = 6 := by rw [bs_size]; simp [bytesLE_length]
  have hp : bytesLE x.k.toNat 2 ++ bytesLE x.l.toNat 2 ++ bytesLE (x.s % 65536).toNat 2 ++ bytesLE (x.s / 65536).toNat 2 = p4 x := rfl
  have hl2 : (bytesLE x.k.toNat 2).length = 2 := bytesLE_length 2 _
  have hp4 := p4_length x
  have hpn := p4_nums x
  have HPN := Lib.hid hpn
  rw [hp] at a3
  clear hp hpn
  generalize bytesLE x.k.toNat 2 ++ bytesLE x.l.toNat 2 ++ bytesLE (x.s % 65536).toNat 2 = L2 at *
  generalize bytesLE x.k.toNat 2 ++ bytesLE x.l.toNat 2 = L1 at *
  generalize bytesLE x.k.toNat 2 = A0 at *
  generalize bytesLE x.l.toNat 2 = A1 at *
  generalize bytesLE (x.s % 65536).toNat 2 = A2 at *
  generalize bytesLE (x.s / 65536).toNat 2 = A3 at *
  generalize p4 x = P4 at *
  have HA0 := Lib.hid (And.intro hb0 hl2)
  have N1 := Lib.hid n1
  have N2 := Lib.hid n2
  have N3 := Lib.hid n3
  have HBD := Lib.hid hbd
  have HBL := Lib.hid hbl
  have HP4 := Lib.hid hp4
  clear n1 n2 n3 hbd hbl hb0 hl2 hp4
  unfold ic at HBL ⊢
  have hx0 := hp_new w (.cells #[.int .u8 x.k, .int .u16 x.l, .int .u32 x.s, .int .u16 x.d0, .int .u16 x.d1, .int .u16 x.d2, .int .u16 x.d3, .int .u16 x.n] 51) rfl
  go_enter Try.func41, Try.ntmps41
  go_wp2_with fail
  apply region_mid (R := fun _ W' => W'.heap[w.heap.size]? = some (.cells #[.int .u8 x.k, .int .u16 x.l, .int .u32 x.s, .int .u16 x.d0, .int .u16 x.d1, .int .u16 x.d2, .int .u16 x.d3, .int .u16 x.n] 51 (0, 0)) ∧ Below w.heap.size w W')
  · refine wp_region_noPanic ?_
    refine region_namedH (S := (fun W => W.heap[w.heap.size]? = some (.cells #[.int .u8 x.k, .int .u16 x.l, .int .u32 x.s, .int .u16 x.d0, .int .u16 x.d1, .int .u16 x.d2, .int .u16 x.d3, .int .u16 x.n] 51 (0, 0)))) (by kernel_rfl) (fun W2 HW2 => ⟨by rw [HW2.out]; exact hx0, fun hHeld => ?_⟩)
    have B0 : Below w.heap.size w W2 := by rw [HW2.out]; exact (bnew _ _).drew
    refine wpAnyH_now (i := 0) (v := ?v700) rfl (by kernel_rfl) (by kernel_rfl) (by kernel_rfl) (fun _ _ _ h => h) (by rfl) ?h700 (by assumption) ?_
    case h700 => ((intro w hSw; (try dsimp only at hSw); have q0 := cl_of hSw 0; go_simp); try with_reducible rfl)
    (try simp only [Act.put, List.setIfInBounds_toArray, List.set_cons_succ, List.set_cons_zero])
    refine wpAnyH_now (i := 1) (v := ?v701) rfl (by kernel_rfl) (by kernel_rfl) (by kernel_rfl) (fun _ _ _ h => h) (by rfl) ?h701 (by assumption) ?_
    case h701 => ((intro w hSw; (try dsimp only at hSw); have q0 := cl_of hSw 0; go_simp); try with_reducible rfl)
    (try simp only [Act.put, List.setIfInBounds_toArray, List.set_cons_succ, List.set_cons_zero])
    refine wpAnyH_now (i := 4) (v := ?v702) rfl (by kernel_rfl) (by kernel_rfl) (by kernel_rfl) (fun _ _ _ h => h) (by rfl) ?h702 (by assumption) ?_
    case h702 => ((intro w hSw; (try dsimp only at hSw); have q0 := cl_of hSw 1; go_simp); try with_reducible rfl)
    (try simp only [Act.put, List.setIfInBounds_toArray, List.set_cons_succ, List.set_cons_zero])
    refine wpAnyH_now (i := 5) (v := ?v703) rfl (by kernel_rfl) (by kernel_rfl) (by kernel_rfl) (fun _ _ _ h => h) (by rfl) ?h703 (by assumption) ?_
    case h703 => ((intro w hSw; (try dsimp only at hSw); have q0 := cl_of hSw 1; go_simp); try with_reducible rfl)
    (try simp only [Act.put, List.setIfInBounds_toArray, List.set_cons_succ, List.set_cons_zero])
    refine wpAnyH_now (i := 8) (v := ?v704) rfl (by kernel_rfl) (by kernel_rfl) (by kernel_rfl) (fun _ _ _ h => h) (by rfl) ?h704 (by assumption) ?_
    case h704 => ((intro w hSw; (try dsimp only at hSw); have q0 := cl_of hSw 2; go_simp); try with_reducible rfl)
    (try simp only [Act.put, List.setIfInBounds_toArray, List.set_cons_succ, List.set_cons_zero])
    refine wpAnyH_now (i := 9) (v := ?v705) rfl (by kernel_rfl) (by kernel_rfl) (by kernel_rfl) (fun _ _ _ h => h) (by rfl) ?h705 (by assumption) ?_
    case h705 => ((intro w hSw; (try dsimp only at hSw); have q0 := cl_of hSw 2; go_simp); try with_reducible rfl)
    (try simp only [Act.put, List.setIfInBounds_toArray, List.set_cons_succ, List.set_cons_zero])
    refine wpAnyH_now (i := 10) (v := ?v706) rfl (by kernel_rfl) (by kernel_rfl) (by kernel_rfl) (fun _ _ _ h => h) (by rfl) ?h706 (by assumption) ?_
    case h706 => ((intro w hSw; (try dsimp only at hSw); have q0 := cl_of hSw 2; go_simp); try with_reducible rfl)
    (try simp only [Act.put, List.setIfInBounds_toArray, List.set_cons_succ, List.set_cons_zero])
    refine wpAnyH_now (i := 13) (v := ?v707) rfl (by kernel_rfl) (by kernel_rfl) (by kernel_rfl) (fun _ _ _ h => h) (by rfl) ?h707 (by assumption) ?_
    case h707 => ((intro w hSw; (try dsimp only at hSw); have q0 := cl_of hSw 2; go_simp); try with_reducible rfl)
    (try simp only [Act.put, List.setIfInBounds_toArray, List.set_cons_succ, List.set_cons_zero])
    refine wpAnyH_now (i := 14) (v := ?v708) rfl (by kernel_rfl) (by kernel_rfl) (by kernel_rfl) (fun _ _ _ h => h) (by rfl) ?h708 (by assumption) ?_
    case h708 => ((intro w hSw; (try dsimp only at hSw); have q0 := cl_of hSw 2; go_simp); try with_reducible rfl)
    (try simp only [Act.put, List.setIfInBounds_toArray, List.set_cons_succ, List.set_cons_zero])
    refine wpAnyH_now (i := 15) (v := ?v709) rfl (by kernel_rfl) (by kernel_rfl) (by kernel_rfl) (fun _ _ _ h => h) (by rfl) ?h709 (by assumption) ?_
    case h709 => ((intro w hSw; (try dsimp only at hSw); have q0 := cl_of hSw 2; go_simp); try with_reducible rfl)
    (try simp only [Act.put, List.setIfInBounds_toArray, List.set_cons_succ, List.set_cons_zero])
    refine wpAnyH_now (i := 16) (v := ?v710) rfl (by kernel_rfl) (by kernel_rfl) (by kernel_rfl) (fun _ _ _ h => h) (by rfl) ?h710 (by assumption) ?_
    case h710 => ((intro w hSw; (try dsimp only at hSw); have q0 := cl_of hSw 2; go_simp); try with_reducible rfl)
    (try simp only [Act.put, List.setIfInBounds_toArray, List.set_cons_succ, List.set_cons_zero])
    refine wpAnyH_two (i := 2) (j := 6) (by kernel_rfl) rfl rfl (by rfl) (by rfl) (fun K hK => ?_) (fun K hK => ?_)
    · go_simp
      refine hK.out _ _ (by exact blk_old hHeld _) (fun hHeld => ?_)
      clear hK K
      (try simp only [Act.put, List.setIfInBounds_toArray, List.set_cons_succ, List.set_cons_zero])
      refine wpAnyH_more (fun W => W.heap[w.heap.size]? = some (.cells #[.int .u8 x.k, .int .u16 x.l, .int .u32 x.s, .int .u16 x.d0, .int .u16 x.d1, .int .u16 x.d2, .int .u16 x.d3, .int .u16 x.n] 51 (0, 0)) ∧ W.heap[W2.heap.size]? = some (.cells (bc A0) 5 (0, 0))) (fun _ h => h.1) ⟨hHeld, by rw [HA0.out.1]; exact hp_new _ _ rfl⟩ (fun hHeld => ?_)
      refine wpAnyH_now (i := 3) (v := ?v711) rfl (by kernel_rfl) (by kernel_rfl) (by kernel_rfl) (fun _ _ _ h => h) (by rfl) ?h711 (by assumption) ?_
      case h711 => ((intro w hSw; (try dsimp only at hSw); have hcv := conv_blk hSw.2 HA0.out.2; go_simp); try with_reducible rfl)
      (try simp only [Act.put, List.setIfInBounds_toArray, List.set_cons_succ, List.set_cons_zero])
      refine wpAnyH_only (i := 6) (by kernel_rfl) rfl (by rfl) (fun K hK => ?_)
      go_simp
      refine (N1.out _).mono ?_
      rintro e w1 ⟨rfl, hB1⟩
      refine hK.out _ _ (by exact ⟨bblk hB1 hHeld.1, bblk hB1 hHeld.2⟩) (fun hHeld => ?_)
      clear hK K
      (try simp only [Act.put, List.setIfInBounds_toArray, List.set_cons_succ, List.set_cons_zero])
      refine wpAnyH_now (i := 7) (v := ?v712) rfl (by kernel_rfl) (by kernel_rfl) (by kernel_rfl) (fun _ _ _ h => h) (by rfl) ?h712 (by assumption) ?_
      case h712 => ((intro w hSw; (try dsimp only at hSw); go_simp); try with_reducible rfl)
      (try simp only [Act.put, List.setIfInBounds_toArray, List.set_cons_succ, List.set_cons_zero])
      refine wpAnyH_only (i := 11) (by kernel_rfl) rfl (by rfl) (fun K hK => ?_)
      go_simp
      refine (N2.out _).mono ?_
      rintro e w2 ⟨rfl, hB2⟩
      refine hK.out _ _ (by exact ⟨bblk hB2 hHeld.1, bblk hB2 hHeld.2⟩) (fun hHeld => ?_)
      clear hK K
      (try simp only [Act.put, List.setIfInBounds_toArray, List.set_cons_succ, List.set_cons_zero])
      refine wpAnyH_now (i := 12) (v := ?v713) rfl (by kernel_rfl) (by kernel_rfl) (by kernel_rfl) (fun _ _ _ h => h) (by rfl) ?h713 (by assumption) ?_
      case h713 => ((intro w hSw; (try dsimp only at hSw); go_simp); try with_reducible rfl)
      (try simp only [Act.put, List.setIfInBounds_toArray, List.set_cons_succ, List.set_cons_zero])
      refine wpAnyH_only (i := 17) (by kernel_rfl) rfl (by rfl) (fun K hK => ?_)
      go_simp
      refine (N3.out _).mono ?_
      rintro e w3 ⟨rfl, hB3⟩
      refine hK.out _ _ (by exact ⟨bblk hB3 hHeld.1, bblk hB3 hHeld.2⟩) (fun hHeld => ?_)
      clear hK K
      (try simp only [Act.put, List.setIfInBounds_toArray, List.set_cons_succ, List.set_cons_zero])
      refine wpAnyH_now (i := 18) (v := ?v714) rfl (by kernel_rfl) (by kernel_rfl) (by kernel_rfl) (fun _ _ _ h => h) (by rfl) ?h714 (by assumption) ?_
      case h714 => ((intro w hSw; (try dsimp only at hSw); go_simp); try with_reducible rfl)
      (try simp only [Act.put, List.setIfInBounds_toArray, List.set_cons_succ, List.set_cons_zero])
      refine wpAnyH_now (i := 19) (v := ?v715) rfl (by kernel_rfl) (by kernel_rfl) (by kernel_rfl) (fun _ _ _ h => h) (by rfl) ?h715 (by assumption) ?_
      case h715 => ((intro w hSw; (try dsimp only at hSw); go_simp); try with_reducible rfl)
      (try simp only [Act.put, List.setIfInBounds_toArray, List.set_cons_succ, List.set_cons_zero])
      refine wpAnyH_done (by kernel_rfl) ?_ _
      refine NoPanic.normal ?_
      obtain ⟨nv, hnv⟩ : ∃ k, W2.heap.size = k := ⟨_, rfl⟩
      rw [hnv]
      exact ⟨rfl, nv, rfl, by subst hnv; exact ⟨hHeld.1, bt (bt (bt (bal (B0) _) hB1) hB2) hB3⟩⟩
    · go_simp
      refine (N1.out _).mono ?_
      rintro e w1 ⟨rfl, hB1⟩
      refine hK.out _ _ (by exact bblk hB1 hHeld) (fun hHeld => ?_)
      clear hK K
      (try simp only [Act.put, List.setIfInBounds_toArray, List.set_cons_succ, List.set_cons_zero])
      refine wpAnyH_two (i := 2) (j := 11) (by kernel_rfl) rfl rfl (by rfl) (by rfl) (fun K hK => ?_) (fun K hK => ?_)
      · go_simp
        refine hK.out _ _ (by exact blk_old hHeld _) (fun hHeld => ?_)
        clear hK K
        (try simp only [Act.put, List.setIfInBounds_toArray, List.set_cons_succ, List.set_cons_zero])
        refine wpAnyH_more (fun W => W.heap[w.heap.size]? = some (.cells #[.int .u8 x.k, .int .u16 x.l, .int .u32 x.s, .int .u16 x.d0, .int .u16 x.d1, .int .u16 x.d2, .int .u16 x.d3, .int .u16 x.n] 51 (0, 0)) ∧ W.heap[w1.heap.size]? = some (.cells (bc A0) 5 (0, 0))) (fun _ h => h.1) ⟨hHeld, by rw [HA0.out.1]; exact hp_new _ _ rfl⟩ (fun hHeld => ?_)
        refine wpAnyH_now (i := 3) (v := ?v716) rfl (by kernel_rfl) (by kernel_rfl) (by kernel_rfl) (fun _ _ _ h => h) (by rfl) ?h716 (by assumption) ?_
        case h716 => ((intro w hSw; (try dsimp only at hSw); have hcv := conv_blk hSw.2 HA0.out.2; go_simp); try with_reducible rfl)
        (try simp only [Act.put, List.setIfInBounds_toArray, List.set_cons_succ, List.set_cons_zero])
        refine wpAnyH_now (i := 7) (v := ?v717) rfl (by kernel_rfl) (by kernel_rfl) (by kernel_rfl) (fun _ _ _ h => h) (by rfl) ?h717 (by assumption) ?_
        case h717 => ((intro w hSw; (try dsimp only at hSw); go_simp); try with_reducible rfl)
        (try simp only [Act.put, List.setIfInBounds_toArray, List.set_cons_succ, List.set_cons_zero])
        refine wpAnyH_only (i := 11) (by kernel_rfl) rfl (by rfl) (fun K hK => ?_)
        go_simp
        refine (N2.out _).mono ?_
        rintro e w2 ⟨rfl, hB2⟩
        refine hK.out _ _ (by exact ⟨bblk hB2 hHeld.1, bblk hB2 hHeld.2⟩) (fun hHeld => ?_)
        clear hK K
        (try simp only [Act.put, List.setIfInBounds_toArray, List.set_cons_succ, List.set_cons_zero])
        refine wpAnyH_now (i := 12) (v := ?v718) rfl (by kernel_rfl) (by kernel_rfl) (by kernel_rfl) (fun _ _ _ h => h) (by rfl) ?h718 (by assumption) ?_
        case h718 => ((intro w hSw; (try dsimp only at hSw); go_simp); try with_reducible rfl)
        (try simp only [Act.put, List.setIfInBounds_toArray, List.set_cons_succ, List.set_cons_zero])
        refine wpAnyH_only (i := 17) (by kernel_rfl) rfl (by rfl) (fun K hK => ?_)
        go_simp
        refine (N3.out _).mono ?_
        rintro e w3 ⟨rfl, hB3⟩
        refine hK.out _ _ (by exact ⟨bblk hB3 hHeld.1, bblk hB3 hHeld.2⟩) (fun hHeld => ?_)
        clear hK K
        (try simp only [Act.put, List.setIfInBounds_toArray, List.set_cons_succ, List.set_cons_zero])
        refine wpAnyH_now (i := 18) (v := ?v719) rfl (by kernel_rfl) (by kernel_rfl) (by kernel_rfl) (fun _ _ _ h => h) (by rfl) ?h719 (by assumption) ?_
        case h719 => ((intro w hSw; (try dsimp only at hSw); go_simp); try with_reducible rfl)
        (try simp only [Act.put, List.setIfInBounds_toArray, List.set_cons_succ, List.set_cons_zero])
        refine wpAnyH_now (i := 19) (v := ?v720) rfl (by kernel_rfl) (by kernel_rfl) (by kernel_rfl) (fun _ _ _ h => h) (by rfl) ?h720 (by assumption) ?_
        case h720 => ((intro w hSw; (try dsimp only at hSw); go_simp); try with_reducible rfl)
        (try simp only [Act.put, List.setIfInBounds_toArray, List.set_cons_succ, List.set_cons_zero])
        refine wpAnyH_done (by kernel_rfl) ?_ _
        refine NoPanic.normal ?_
        obtain ⟨nv, hnv⟩ : ∃ k, w1.heap.size = k := ⟨_, rfl⟩
        rw [hnv]
        exact ⟨rfl, nv, rfl, by subst hnv; exact ⟨hHeld.1, bt (bt (bal (bt (B0) hB1) _) hB2) hB3⟩⟩
      · go_simp
        refine (N2.out _).mono ?_
        rintro e w2 ⟨rfl, hB2⟩
        refine hK.out _ _ (by exact bblk hB2 hHeld) (fun hHeld => ?_)
        clear hK K
        (try simp only [Act.put, List.setIfInBounds_toArray, List.set_cons_succ, List.set_cons_zero])
        refine wpAnyH_two (i := 2) (j := 17) (by kernel_rfl) rfl rfl (by rfl) (by rfl) (fun K hK => ?_) (fun K hK => ?_)
        · go_simp
          refine hK.out _ _ (by exact blk_old hHeld _) (fun hHeld => ?_)
          clear hK K
          (try simp only [Act.put, List.setIfInBounds_toArray, List.set_cons_succ, List.set_cons_zero])
          refine wpAnyH_more (fun W => W.heap[w.heap.size]? = some (.cells #[.int .u8 x.k, .int .u16 x.l, .int .u32 x.s, .int .u16 x.d0, .int .u16 x.d1, .int .u16 x.d2, .int .u16 x.d3, .int .u16 x.n] 51 (0, 0)) ∧ W.heap[w2.heap.size]? = some (.cells (bc A0) 5 (0, 0))) (fun _ h => h.1) ⟨hHeld, by rw [HA0.out.1]; exact hp_new _ _ rfl⟩ (fun hHeld => ?_)
          refine wpAnyH_now (i := 3) (v := ?v721) rfl (by kernel_rfl) (by kernel_rfl) (by kernel_rfl) (fun _ _ _ h => h) (by rfl) ?h721 (by assumption) ?_
          case h721 => ((intro w hSw; (try dsimp only at hSw); have hcv := conv_blk hSw.2 HA0.out.2; go_simp); try with_reducible rfl)
          (try simp only [Act.put, List.setIfInBounds_toArray, List.set_cons_succ, List.set_cons_zero])
          refine wpAnyH_now (i := 7) (v := ?v722) rfl (by kernel_rfl) (by kernel_rfl) (by kernel_rfl) (fun _ _ _ h => h) (by rfl) ?h722 (by assumption) ?_
          case h722 => ((intro w hSw; (try dsimp only at hSw); go_simp); try with_reducible rfl)
          (try simp only [Act.put, List.setIfInBounds_toArray, List.set_cons_succ, List.set_cons_zero])
          refine wpAnyH_now (i := 12) (v := ?v723) rfl (by kernel_rfl) (by kernel_rfl) (by kernel_rfl) (fun _ _ _ h => h) (by rfl) ?h723 (by assumption) ?_
          case h723 => ((intro w hSw; (try dsimp only at hSw); go_simp); try with_reducible rfl)
          (try simp only [Act.put, List.setIfInBounds_toArray, List.set_cons_succ, List.set_cons_zero])
          refine wpAnyH_only (i := 17) (by kernel_rfl) rfl (by rfl) (fun K hK => ?_)
          go_simp
          refine (N3.out _).mono ?_
          rintro e w3 ⟨rfl, hB3⟩
          refine hK.out _ _ (by exact ⟨bblk hB3 hHeld.1, bblk hB3 hHeld.2⟩) (fun hHeld => ?_)
          clear hK K
          (try simp only [Act.put, List.setIfInBounds_toArray, List.set_cons_succ, List.set_cons_zero])
          refine wpAnyH_now (i := 18) (v := ?v724) rfl (by kernel_rfl) (by kernel_rfl) (by kernel_rfl) (fun _ _ _ h => h) (by rfl) ?h724 (by assumption) ?_
          case h724 => ((intro w hSw; (try dsimp only at hSw); go_simp); try with_reducible rfl)
          (try simp only [Act.put, List.setIfInBounds_toArray, List.set_cons_succ, List.set_cons_zero])
          refine wpAnyH_now (i := 19) (v := ?v725) rfl (by kernel_rfl) (by kernel_rfl) (by kernel_rfl) (fun _ _ _ h => h) (by rfl) ?h725 (by assumption) ?_
          case h725 => ((intro w hSw; (try dsimp only at hSw); go_simp); try with_reducible rfl)
          (try simp only [Act.put, List.setIfInBounds_toArray, List.set_cons_succ, List.set_cons_zero])
          refine wpAnyH_done (by kernel_rfl) ?_ _
          refine NoPanic.normal ?_
          obtain ⟨nv, hnv⟩ : ∃ k, w2.heap.size = k := ⟨_, rfl⟩
          rw [hnv]
          exact ⟨rfl, nv, rfl, by subst hnv; exact ⟨hHeld.1, bt (bal (bt (bt (B0) hB1) hB2) _) hB3⟩⟩
        · go_simp
          refine (N3.out _).mono ?_
          rintro e w3 ⟨rfl, hB3⟩
          refine hK.out _ _ (by exact bblk hB3 hHeld) (fun hHeld => ?_)
          clear hK K
          (try simp only [Act.put, List.setIfInBounds_toArray, List.set_cons_succ, List.set_cons_zero])
          refine wpAnyH_only (i := 2) (by kernel_rfl) rfl (by rfl) (fun K hK => ?_)
          go_simp
          refine hK.out _ _ (by exact blk_old hHeld _) (fun hHeld => ?_)
          clear hK K
          (try simp only [Act.put, List.setIfInBounds_toArray, List.set_cons_succ, List.set_cons_zero])
          refine wpAnyH_more (fun W => W.heap[w.heap.size]? = some (.cells #[.int .u8 x.k, .int .u16 x.l, .int .u32 x.s, .int .u16 x.d0, .int .u16 x.d1, .int .u16 x.d2, .int .u16 x.d3, .int .u16 x.n] 51 (0, 0)) ∧ W.heap[w3.heap.size]? = some (.cells (bc A0) 5 (0, 0))) (fun _ h => h.1) ⟨hHeld, by rw [HA0.out.1]; exact hp_new _ _ rfl⟩ (fun hHeld => ?_)
          refine wpAnyH_now (i := 3) (v := ?v726) rfl (by kernel_rfl) (by kernel_rfl) (by kernel_rfl) (fun _ _ _ h => h) (by rfl) ?h726 (by assumption) ?_
          case h726 => ((intro w hSw; (try dsimp only at hSw); have hcv := conv_blk hSw.2 HA0.out.2; go_simp); try with_reducible rfl)
          (try simp only [Act.put, List.setIfInBounds_toArray, List.set_cons_succ, List.set_cons_zero])
          refine wpAnyH_now (i := 7) (v := ?v727) rfl (by kernel_rfl) (by kernel_rfl) (by kernel_rfl) (fun _ _ _ h => h) (by rfl) ?h727 (by assumption) ?_
          case h727 => ((intro w hSw; (try dsimp only at hSw); go_simp); try with_reducible rfl)
          (try simp only [Act.put, List.setIfInBounds_toArray, List.set_cons_succ, List.set_cons_zero])
          refine wpAnyH_now (i := 12) (v := ?v728) rfl (by kernel_rfl) (by kernel_rfl) (by kernel_rfl) (fun _ _ _ h => h) (by rfl) ?h728 (by assumption) ?_
          case h728 => ((intro w hSw; (try dsimp only at hSw); go_simp); try with_reducible rfl)
          (try simp only [Act.put, List.setIfInBounds_toArray, List.set_cons_succ, List.set_cons_zero])
          refine wpAnyH_now (i := 18) (v := ?v729) rfl (by kernel_rfl) (by kernel_rfl) (by kernel_rfl) (fun _ _ _ h => h) (by rfl) ?h729 (by assumption) ?_
          case h729 => ((intro w hSw; (try dsimp only at hSw); go_simp); try with_reducible rfl)
          (try simp only [Act.put, List.setIfInBounds_toArray, List.set_cons_succ, List.set_cons_zero])
          refine wpAnyH_now (i := 19) (v := ?v730) rfl (by kernel_rfl) (by kernel_rfl) (by kernel_rfl) (fun _ _ _ h => h) (by rfl) ?h730 (by assumption) ?_
          case h730 => ((intro w hSw; (try dsimp only at hSw); go_simp); try with_reducible rfl)
          (try simp only [Act.put, List.setIfInBounds_toArray, List.set_cons_succ, List.set_cons_zero])
          refine wpAnyH_done (by kernel_rfl) ?_ _
          refine NoPanic.normal ?_
          obtain ⟨nv, hnv⟩ : ∃ k, w3.heap.size = k := ⟨_, rfl⟩
          rw [hnv]
          exact ⟨rfl, nv, rfl, by subst hnv; exact ⟨hHeld.1, bal (bt (bt (bt (B0) hB1) hB2) hB3) _⟩⟩
  intro nb w4 hmid
  obtain ⟨hx1, B1⟩ := hmid
  clear hx0
  have g0 := cl_of hx1 0
  have g1 := cl_of hx1 1
  have g2 := cl_of hx1 2
  have g3 := cl_of hx1 3
  have g4 := cl_of hx1 4
  have g5 := cl_of hx1 5
  have g6 := cl_of hx1 6
  have g7 := cl_of hx1 7
  go_wp2_with fail
  refine (HBL.out _).mono ?_
  rintro e w5 ⟨⟨g, rfl, hgl, hg⟩, hB5⟩
  have B5 := bt B1 hB5
  clear g0 g1 g2 g3 g4 g5 g6 g7 hx1 B1 hB5 a1 a2 a3 s0 s1 s2 s3 t1 t2 e2 e3 wk wl ws
  go_wp2_with fail
  go_loopw [3, 5] (fun s v wr => ∃ k : Nat, ∃ l : List UInt8, k ≤ 5 ∧ v = .int .i64 k ∧ s = .string (bs l) ∧ Hid (l = P4 ++ pby (x.ds.take k)) ∧ wr.heap[g]? = some (.cells (u16s x.ds).toArray 40 (0, 0)) ∧ Below w.heap.size w wr) (fun _ v _ => 5 - (intOf v).toNat)
  case atStart => exact ⟨0, P4, by omega, rfl, rfl, Lib.hid (by simp [pby]), hg, B5⟩
  case round =>
    obtain ⟨k, l, hk, rfl, rfl, HL, hg2, hB⟩ := hrel
    clear hg B5
    have hll : l.length = 8 + 2 * k := by rw [HL.out, List.length_append, HP4.out, pby_length, List.length_take, show x.ds.length = 5 from rfl]; omega
    have hs := bs_size l
    by_cases hlt : k < 5
    · have d0 : decide ((k : Int) < 5) = true := decide_eq_true (by omega)
      have hc := ds_cell hg2 hlt
      have hz := HBD.out k
      have HP := Lib.hid (pby_snoc x.ds (k := k) hlt)
      generalize x.ds.getD k 0 = z at *
      have HLL := Lib.hid hll
      have hl64 : l.length ≤ 64 := by omega
      clear hll
      go_wp2_with fail
      refine (rtwo_any z (by omega) (by omega) _).mono ?_
      rintro e w2 ⟨rfl, hB4⟩
      have h4 : (bs (bytesLE z.toNat 2)).size = 2 := by rw [bs_size, bytesLE_length]
      have HA := bs_append l (bytesLE z.toNat 2)
      go_wp2_with fail
      go_roundw
      case rel => exact ⟨k + 1, l ++ bytesLE z.toNat 2, by omega, by go_num, rfl, Lib.hid (by rw [HP.out, HL.out, List.append_assoc]), bblk hB4 hg2, bt hB hB4⟩
      case measure => simp [intOf]; omega
    · obtain rfl : k = 5 := by omega
      have hle : l = pby x.nums := by rw [HL.out, List.take_of_length_le (by show (5 : Nat) ≤ 5; decide), HPN.out]
      have HLE := Lib.hid hle
      clear hle
      have hmk : ∀ W : World, (Instr.makeSlice 31 (.int .i64 14) (.int .i64 14)).run Try.prog W = .ok (.slice (some ⟨W.heap.size, 0, none⟩) 14 14) (W.alloc (.cells (bc (zeros 14)) 5)) := make_zeros 14 (by decide)
      have hcv := conv_new (zeros 14) 14 (zeros_length _)
      have HA := bs_append l (zeros 14)
      have hz : (bs (zeros 14)).size = 14 := by rw [bs_size, zeros_length]
      have hl18 : l.length = 18 := by omega
      rw [hl18] at hs
      clear hll hl18
      go_wp2_with fail
      go_ret
      exact ⟨by rw [HLE.out]; rfl, bal hB _⟩

theorem gn_at (l : List UInt8) (h : 32 ≤ l.length) (k : Nat) (hk : k < 16) : gn l k = (l[2 * k].toNat : Int) + 256 * (l[2 * k + 1].toNat : Int) := by
  rw [gn, gots_get _ k (by rw [List.length_take]; omega)]
  simp
set_option maxHeartbeats 1000000 in
theorem rget_short (l : List UInt8) (hl : l.length < 32) (w : World) : Calls Try.prog 32 #[.string (bs l)] w fun e w' => e = .returned (.tuple #[.agg (ic Ino.zero), .int .i64 6]) ∧ Below w.heap.size w w' := by
  have hs := bs_size l
  go_enter Try.func32, Try.ntmps32
  go_wp2_with fail
  exact bodyPost_ret (v := .tuple #[.agg (ic Ino.zero), .int .i64 6]) (by simp [results, Try.results32, go_sem, ic, Ino.zero]) rfl ⟨rfl, bnew _ _⟩
end Go.Proofs.Ytcdmipgopffaaaa
