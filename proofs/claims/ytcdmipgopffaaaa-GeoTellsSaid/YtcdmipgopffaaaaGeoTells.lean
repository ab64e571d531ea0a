/- The law GeoTells: which geometries may be, where all lies, what a sector is, which superblock there is, and of which any bytes are: as the document says. -/
import Derived.Test.YtcdmipgopffaaaaGeoBoth
namespace Go.Proofs.Ytcdmipgopffaaaa
open Go.RowKit
set_option maxRecDepth 100000
set_option linter.unusedVariables false
set_option linter.unusedSimpArgs false

/-- Are two parts one? -/
def seq2 (a b a' b' : Int) : Bool := decide (a = a' ∧ b = b')
theorem seq2_self (a b : Int) : seq2 a b a b = true := by simp [seq2]
theorem eq_span (a b a' b' : Int) (w : World) : (Op.equalIn 10000 34 (.agg #[.int .i64 a, .int .i64 b]) (.agg #[.int .i64 a', .int .i64 b'])).run Try.prog w = .ok (seq2 a b a' b') w := by
  have u3 := Try.underlying3
  have a3 := Try.isAgg3
  rw [show (10000 : Nat) = 9999 + 1 by rfl, run_equalIn_struct (P := Try.prog) w 9999 34 _ _ (by kernel_rfl) (by kernel_rfl)]
  simp only [Program.fieldsOf, Try.underlying34]
  go_simp
  unfold seq2
  by_cases h1 : a = a' <;> by_cases h2 : b = b' <;> simp [h1, h2]
attribute [local go_sem ↓] eq_geo geq_self eq_span seq2_self

set_option maxHeartbeats 8000000 in
theorem geotells_walk (v0 : Value) (g : Int × Int × Int) (part ino blk sec : Int) (s : ByteArray) (hg : GeoV v0 g) (wp : (Lit.int .i64 part).wf = true) (wi : (Lit.int .u32 ino).wf = true) (wb : (Lit.int .u16 blk).wf = true) (ws : (Lit.int .i64 sec).wf = true) (hs : s.size ≤ 140737488351232) (w : World) :
    Calls Try.prog 5 #[v0, .int .i64 part, .int .u32 ino, .int .u16 blk, .int .i64 sec, .string s] w fun e w' => e = .returned (.bool true) ∧ Below w.heap.size w w' := by
  obtain ⟨i, b, j⟩ := g
  obtain rfl := hg.val
  clear hg
  obtain ⟨n0, n1⟩ := wfu32 wi
  obtain ⟨k0, k1⟩ := wfu16 wb
  clear wp wi wb ws
  obtain ⟨l, rfl⟩ : ∃ l, s = bs l := ⟨_, (bs_of s).symm⟩
  rw [bs_size] at hs
  have hsl := bs_size l
  dsimp only
  by_cases hl : 1000 < l.length
  · have dl : decide ((l.length : Int) > 1000) = true := decide_eq_true (by omega)
    go_enter Try.func5, Try.ntmps5
    go_wp2_with fail
    refine (alive05 _).mono ?_
    rintro e w1 ⟨rfl, hB⟩
    go_wp2_with fail
    go_ret
    exact ⟨rfl, bt (bnew _ _) hB⟩
  have dl : decide ((l.length : Int) > 1000) = false := decide_eq_false (by omega)
  have hG0 := hp_new w (.cells #[.int .i64 i, .int .i64 b, .int .i64 j] 23) rfl
  have B0 := bnew w (.cells #[.int .i64 i, .int .i64 b, .int .i64 j] 23)
  obtain ⟨m, ns, hm, M1, M2, M3, M4⟩ := may_both i b j
  obtain ⟨F, N, z1, P1, P2, P3⟩ := part_both i b j part
  obtain ⟨I, A, z2, I1, I2, I3, -⟩ := inode_both i b j ino n0 n1
  obtain ⟨K, z3, K1, K2, K3⟩ := block_both i b j blk k0 k1
  obtain ⟨V, T, z4, V1, V2, V3⟩ := where_both i b j sec
  obtain ⟨U, z5, U1, U2, U3⟩ := super_both i b j
  obtain ⟨X, Y, Z, z6, R1, R2⟩ := read_both l (by omega)
  unfold gva at *
  generalize hbl : bs l = bl at *
  clear hbl n0 n1 k0 k1
  have hmh := Lib.hid hm
  have M1h := Lib.hid M1
  have M2h := Lib.hid M2
  have M3h := Lib.hid M3
  have M4h := Lib.hid M4
  have P1h := Lib.hid P1
  have P2h := Lib.hid P2
  have P3h := Lib.hid P3
  have I1h := Lib.hid I1
  have I2h := Lib.hid I2
  have I3h := Lib.hid I3
  have K1h := Lib.hid K1
  have K2h := Lib.hid K2
  have K3h := Lib.hid K3
  have V1h := Lib.hid V1
  have V2h := Lib.hid V2
  have V3h := Lib.hid V3
  have U1h := Lib.hid U1
  have U2h := Lib.hid U2
  have U3h := Lib.hid U3
  have R1h := Lib.hid R1
  have R2h := Lib.hid R2
  clear hm M1 M2 M3 M4 P1 P2 P3 I1 I2 I3 K1 K2 K3 V1 V2 V3 U1 U2 U3 R1 R2
  have g0 := cl_of hG0 0
  have g1 := cl_of hG0 1
  have g2 := cl_of hG0 2
  go_enter Try.func5, Try.ntmps5
  go_wp2_with fail
  refine (P1h.out _).mono ?_
  rintro e w1 ⟨rfl, hB1⟩
  have hG1 := bblk hB1 hG0
  have B1 := bt B0 hB1
  replace hG1 := blk_old hG1 (.cells #[.int .i64 F, .int .i64 N] 34)
  have hP1 := hp_new w1 (.cells #[.int .i64 F, .int .i64 N] 34) rfl
  replace B1 := bal B1 (.cells #[.int .i64 F, .int .i64 N] 34)
  clear hG0 B0 hB1
  clear g0 g1 g2
  have g0 := cl_of hG1 0
  have g1 := cl_of hG1 1
  have g2 := cl_of hG1 2
  have p0 := cl_of hP1 0
  have p1 := cl_of hP1 1
  go_wp2_with fail
  refine (I1h.out _).mono ?_
  rintro e w2 ⟨rfl, hB2⟩
  have hG2 := bblk hB2 hG1
  have hP2 := bblk hB2 hP1
  have B2 := bt B1 hB2
  clear hG1 hP1 B1 hB2
  clear g0 g1 g2 p0 p1
  have g0 := cl_of hG2 0
  have g1 := cl_of hG2 1
  have g2 := cl_of hG2 2
  have p0 := cl_of hP2 0
  have p1 := cl_of hP2 1
  go_wp2_with fail
  refine (K1h.out _).mono ?_
  rintro e w3 ⟨rfl, hB3⟩
  have hG3 := bblk hB3 hG2
  have hP3 := bblk hB3 hP2
  have B3 := bt B2 hB3
  clear hG2 hP2 B2 hB3
  clear g0 g1 g2 p0 p1
  have g0 := cl_of hG3 0
  have g1 := cl_of hG3 1
  have g2 := cl_of hG3 2
  have p0 := cl_of hP3 0
  have p1 := cl_of hP3 1
  go_wp2_with fail
  refine (V1h.out _).mono ?_
  rintro e w4 ⟨rfl, hB4⟩
  have hG4 := bblk hB4 hG3
  have hP4 := bblk hB4 hP3
  have B4 := bt B3 hB4
  clear hG3 hP3 B3 hB4
  clear g0 g1 g2 p0 p1
  have g0 := cl_of hG4 0
  have g1 := cl_of hG4 1
  have g2 := cl_of hG4 2
  have p0 := cl_of hP4 0
  have p1 := cl_of hP4 1
  go_wp2_with fail
  refine (U1h.out _).mono ?_
  rintro e w5 ⟨rfl, hB5⟩
  have hG5 := bblk hB5 hG4
  have hP5 := bblk hB5 hP4
  have B5 := bt B4 hB5
  clear hG4 hP4 B4 hB5
  clear g0 g1 g2 p0 p1
  have g0 := cl_of hG5 0
  have g1 := cl_of hG5 1
  have g2 := cl_of hG5 2
  have p0 := cl_of hP5 0
  have p1 := cl_of hP5 1
  go_wp2_with fail
  refine (R1h.out _).mono ?_
  rintro e w6 ⟨rfl, hB6⟩
  have hG6 := bblk hB6 hG5
  have hP6 := bblk hB6 hP5
  have B6 := bt B5 hB6
  replace hG6 := blk_old hG6 (.cells #[.int .i64 X, .int .i64 Y, .int .i64 Z] 23)
  replace hP6 := blk_old hP6 (.cells #[.int .i64 X, .int .i64 Y, .int .i64 Z] 23)
  have hX6 := hp_new w6 (.cells #[.int .i64 X, .int .i64 Y, .int .i64 Z] 23) rfl
  replace B6 := bal B6 (.cells #[.int .i64 X, .int .i64 Y, .int .i64 Z] 23)
  clear hG5 hP5 B5 hB6
  clear g0 g1 g2 p0 p1
  have g0 := cl_of hG6 0
  have g1 := cl_of hG6 1
  have g2 := cl_of hG6 2
  have p0 := cl_of hP6 0
  have p1 := cl_of hP6 1
  have x0 := cl_of hX6 0
  have x1 := cl_of hX6 1
  have x2 := cl_of hX6 2
  go_wp2_with fail
  refine (R2h.out _).mono ?_
  rintro e w7 ⟨rfl, hB7⟩
  have hG7 := bblk hB7 hG6
  have hP7 := bblk hB7 hP6
  have hX7 := bblk hB7 hX6
  have B7 := bt B6 hB7
  replace hG7 := blk_old hG7 (.cells #[.int .i64 X, .int .i64 Y, .int .i64 Z] 23)
  replace hP7 := blk_old hP7 (.cells #[.int .i64 X, .int .i64 Y, .int .i64 Z] 23)
  replace hX7 := blk_old hX7 (.cells #[.int .i64 X, .int .i64 Y, .int .i64 Z] 23)
  have hY7 := hp_new w7 (.cells #[.int .i64 X, .int .i64 Y, .int .i64 Z] 23) rfl
  replace B7 := bal B7 (.cells #[.int .i64 X, .int .i64 Y, .int .i64 Z] 23)
  clear hG6 hP6 hX6 B6 hB7
  clear g0 g1 g2 p0 p1 x0 x1 x2
  have g0 := cl_of hG7 0
  have g1 := cl_of hG7 1
  have g2 := cl_of hG7 2
  have p0 := cl_of hP7 0
  have p1 := cl_of hP7 1
  have x0 := cl_of hX7 0
  have x1 := cl_of hX7 1
  have x2 := cl_of hX7 2
  have y0 := cl_of hY7 0
  have y1 := cl_of hY7 1
  have y2 := cl_of hY7 2
  go_wp2_with fail
  refine wp_region_noPanic ?_
  refine region_namedH (S := (fun W => W.heap[w.heap.size]? = some (.cells #[.int .i64 i, .int .i64 b, .int .i64 j] 23 (0, 0)) ∧ W.heap[w1.heap.size]? = some (.cells #[.int .i64 F, .int .i64 N] 34 (0, 0)) ∧ W.heap[w6.heap.size]? = some (.cells #[.int .i64 X, .int .i64 Y, .int .i64 Z] 23 (0, 0)) ∧ W.heap[w7.heap.size]? = some (.cells #[.int .i64 X, .int .i64 Y, .int .i64 Z] 23 (0, 0)))) (by kernel_rfl) (fun W2 HW2 => ⟨by rw [HW2.out]; exact ⟨hG7, hP7, hX7, hY7⟩, fun hHeld => ?_⟩)
  have C0 : Below w.heap.size w W2 := by rw [HW2.out]; exact B7.drew
  clear hG7 hP7 hX7 hY7 B7 g0 g1 g2 p0 p1 x0 x1 x2 y0 y1 y2
  refine wpAnyH_now (i := 0) (v := ?v700) rfl (by kernel_rfl) (by kernel_rfl) (by kernel_rfl) (fun _ _ _ h => h) (by rfl) ?h700 (by assumption) ?_
  case h700 => ((intro w hSw; (try dsimp only at hSw); have q0 := cl_of hSw.2.2.1 0; have q1 := cl_of hSw.2.2.1 1; have q2 := cl_of hSw.2.2.1 2; go_simp); try with_reducible rfl)
  (try simp only [Act.put, List.setIfInBounds_toArray, List.set_cons_succ, List.set_cons_zero])
  refine wpAnyH_now (i := 1) (v := ?v701) rfl (by kernel_rfl) (by kernel_rfl) (by kernel_rfl) (fun _ _ _ h => h) (by rfl) ?h701 (by assumption) ?_
  case h701 => ((intro w hSw; (try dsimp only at hSw); have q0 := cl_of hSw.2.2.2 0; have q1 := cl_of hSw.2.2.2 1; have q2 := cl_of hSw.2.2.2 2; go_simp); try with_reducible rfl)
  (try simp only [Act.put, List.setIfInBounds_toArray, List.set_cons_succ, List.set_cons_zero])
  refine wpAnyH_now (i := 2) (v := ?v702) rfl (by kernel_rfl) (by kernel_rfl) (by kernel_rfl) (fun _ _ _ h => h) (by rfl) ?h702 (by assumption) ?_
  case h702 => ((intro w hSw; (try dsimp only at hSw); go_simp); try with_reducible rfl)
  (try simp only [Act.put, List.setIfInBounds_toArray, List.set_cons_succ, List.set_cons_zero])
  refine wpAnyH_now (i := 3) (v := ?v703) rfl (by kernel_rfl) (by kernel_rfl) (by kernel_rfl) (fun _ _ _ h => h) (by rfl) ?h703 (by assumption) ?_
  case h703 => ((intro w hSw; (try dsimp only at hSw); go_simp); try with_reducible rfl)
  (try simp only [Act.put, List.setIfInBounds_toArray, List.set_cons_succ, List.set_cons_zero])
  refine wpAnyH_now (i := 4) (v := ?v704) rfl (by kernel_rfl) (by kernel_rfl) (by kernel_rfl) (fun _ _ _ h => h) (by rfl) ?h704 (by assumption) ?_
  case h704 => ((intro w hSw; (try dsimp only at hSw); go_simp); try with_reducible rfl)
  (try simp only [Act.put, List.setIfInBounds_toArray, List.set_cons_succ, List.set_cons_zero])
  refine wpAnyH_now (i := 5) (v := ?v705) rfl (by kernel_rfl) (by kernel_rfl) (by kernel_rfl) (fun _ _ _ h => h) (by rfl) ?h705 (by assumption) ?_
  case h705 => ((intro w hSw; (try dsimp only at hSw); go_simp); try with_reducible rfl)
  (try simp only [Act.put, List.setIfInBounds_toArray, List.set_cons_succ, List.set_cons_zero])
  refine wpAnyH_now (i := 6) (v := ?v706) rfl (by kernel_rfl) (by kernel_rfl) (by kernel_rfl) (fun _ _ _ h => h) (by rfl) ?h706 (by assumption) ?_
  case h706 => ((intro w hSw; (try dsimp only at hSw); go_simp); try with_reducible rfl)
  (try simp only [Act.put, List.setIfInBounds_toArray, List.set_cons_succ, List.set_cons_zero])
  refine wpAnyH_now (i := 7) (v := ?v707) rfl (by kernel_rfl) (by kernel_rfl) (by kernel_rfl) (fun _ _ _ h => h) (by rfl) ?h707 (by assumption) ?_
  case h707 => ((intro w hSw; (try dsimp only at hSw); go_simp); try with_reducible rfl)
  (try simp only [Act.put, List.setIfInBounds_toArray, List.set_cons_succ, List.set_cons_zero])
  refine wpAnyH_now (i := 8) (v := ?v708) rfl (by kernel_rfl) (by kernel_rfl) (by kernel_rfl) (fun _ _ _ h => h) (by rfl) ?h708 (by assumption) ?_
  case h708 => ((intro w hSw; (try dsimp only at hSw); go_simp); try with_reducible rfl)
  (try simp only [Act.put, List.setIfInBounds_toArray, List.set_cons_succ, List.set_cons_zero])
  refine wpAnyH_now (i := 9) (v := ?v709) rfl (by kernel_rfl) (by kernel_rfl) (by kernel_rfl) (fun _ _ _ h => h) (by rfl) ?h709 (by assumption) ?_
  case h709 => ((intro w hSw; (try dsimp only at hSw); have q0 := cl_of hSw.1 0; have q1 := cl_of hSw.1 1; have q2 := cl_of hSw.1 2; go_simp); try with_reducible rfl)
  (try simp only [Act.put, List.setIfInBounds_toArray, List.set_cons_succ, List.set_cons_zero])
  refine wpAnyH_now (i := 11) (v := ?v710) rfl (by kernel_rfl) (by kernel_rfl) (by kernel_rfl) (fun _ _ _ h => h) (by rfl) ?h710 (by assumption) ?_
  case h710 => ((intro w hSw; (try dsimp only at hSw); have q0 := cl_of hSw.1 0; have q1 := cl_of hSw.1 1; have q2 := cl_of hSw.1 2; go_simp); try with_reducible rfl)
  (try simp only [Act.put, List.setIfInBounds_toArray, List.set_cons_succ, List.set_cons_zero])
  refine wpAnyH_only (i := 10) (by kernel_rfl) rfl (by rfl) (fun K hK => ?_)
  go_simp
  refine (M1h.out _).mono ?_
  rintro e w8 ⟨rfl, hD1⟩
  refine hK.out _ _ (by exact ⟨bblk hD1 hHeld.1, bblk hD1 hHeld.2.1, bblk hD1 hHeld.2.2.1, bblk hD1 hHeld.2.2.2⟩) (fun hHeld => ?_)
  clear hK K
  (try simp only [Act.put, List.setIfInBounds_toArray, List.set_cons_succ, List.set_cons_zero])
  refine wpAnyH_only (i := 12) (by kernel_rfl) rfl (by rfl) (fun K hK => ?_)
  go_simp
  refine (M2h.out _).mono ?_
  rintro e w9 ⟨rfl, hD2⟩
  refine hK.out _ _ (by exact ⟨bblk hD2 hHeld.1, bblk hD2 hHeld.2.1, bblk hD2 hHeld.2.2.1, bblk hD2 hHeld.2.2.2⟩) (fun hHeld => ?_)
  clear hK K
  (try simp only [Act.put, List.setIfInBounds_toArray, List.set_cons_succ, List.set_cons_zero])
  refine wpAnyH_now (i := 13) (v := ?v711) rfl (by kernel_rfl) (by kernel_rfl) (by kernel_rfl) (fun _ _ _ h => h) (by rfl) ?h711 (by assumption) ?_
  case h711 => ((intro w hSw; (try dsimp only at hSw); go_simp); try with_reducible rfl)
  (try simp only [Act.put, List.setIfInBounds_toArray, List.set_cons_succ, List.set_cons_zero])
  refine wpAnyH_now (i := 14) (v := ?v712) rfl (by kernel_rfl) (by kernel_rfl) (by kernel_rfl) (fun _ _ _ h => h) (by rfl) ?h712 (by assumption) ?_
  case h712 => ((intro w hSw; (try dsimp only at hSw); go_simp); try with_reducible rfl)
  (try simp only [Act.put, List.setIfInBounds_toArray, List.set_cons_succ, List.set_cons_zero])
  refine wpAnyH_now (i := 15) (v := ?v713) rfl (by kernel_rfl) (by kernel_rfl) (by kernel_rfl) (fun _ _ _ h => h) (by rfl) ?h713 (by assumption) ?_
  case h713 => ((intro w hSw; (try dsimp only at hSw); go_simp); try with_reducible rfl)
  (try simp only [Act.put, List.setIfInBounds_toArray, List.set_cons_succ, List.set_cons_zero])
  refine wpAnyH_now (i := 16) (v := ?v714) rfl (by kernel_rfl) (by kernel_rfl) (by kernel_rfl) (fun _ _ _ h => h) (by rfl) ?h714 (by assumption) ?_
  case h714 => ((intro w hSw; (try dsimp only at hSw); have q0 := cl_of hSw.1 0; have q1 := cl_of hSw.1 1; have q2 := cl_of hSw.1 2; go_simp); try with_reducible rfl)
  (try simp only [Act.put, List.setIfInBounds_toArray, List.set_cons_succ, List.set_cons_zero])
  refine wpAnyH_now (i := 18) (v := ?v715) rfl (by kernel_rfl) (by kernel_rfl) (by kernel_rfl) (fun _ _ _ h => h) (by rfl) ?h715 (by assumption) ?_
  case h715 => ((intro w hSw; (try dsimp only at hSw); have q0 := cl_of hSw.1 0; have q1 := cl_of hSw.1 1; have q2 := cl_of hSw.1 2; go_simp); try with_reducible rfl)
  (try simp only [Act.put, List.setIfInBounds_toArray, List.set_cons_succ, List.set_cons_zero])
  refine wpAnyH_only (i := 17) (by kernel_rfl) rfl (by rfl) (fun K hK => ?_)
  go_simp
  refine (M3h.out _).mono ?_
  rintro e w10 ⟨rfl, hD3⟩
  refine hK.out _ _ (by exact ⟨bblk hD3 hHeld.1, bblk hD3 hHeld.2.1, bblk hD3 hHeld.2.2.1, bblk hD3 hHeld.2.2.2⟩) (fun hHeld => ?_)
  clear hK K
  (try simp only [Act.put, List.setIfInBounds_toArray, List.set_cons_succ, List.set_cons_zero])
  refine wpAnyH_only (i := 19) (by kernel_rfl) rfl (by rfl) (fun K hK => ?_)
  go_simp
  refine (M4h.out _).mono ?_
  rintro e w11 ⟨rfl, hD4⟩
  refine hK.out _ _ (by exact ⟨bblk hD4 hHeld.1, bblk hD4 hHeld.2.1, bblk hD4 hHeld.2.2.1, bblk hD4 hHeld.2.2.2⟩) (fun hHeld => ?_)
  clear hK K
  (try simp only [Act.put, List.setIfInBounds_toArray, List.set_cons_succ, List.set_cons_zero])
  refine wpAnyH_now (i := 20) (v := ?v716) rfl (by kernel_rfl) (by kernel_rfl) (by kernel_rfl) (fun _ _ _ h => h) (by rfl) ?h716 (by assumption) ?_
  case h716 => ((intro w hSw; (try dsimp only at hSw); go_simp); try with_reducible rfl)
  (try simp only [Act.put, List.setIfInBounds_toArray, List.set_cons_succ, List.set_cons_zero])
  refine wpAnyH_now (i := 21) (v := ?v717) rfl (by kernel_rfl) (by kernel_rfl) (by kernel_rfl) (fun _ _ _ h => h) (by rfl) ?h717 (by assumption) ?_
  case h717 => ((intro w hSw; (try dsimp only at hSw); go_simp); try with_reducible rfl)
  (try simp only [Act.put, List.setIfInBounds_toArray, List.set_cons_succ, List.set_cons_zero])
  refine wpAnyH_done (by kernel_rfl) ?_ _
  refine NoPanic.normal ?_
  obtain ⟨hG11, hP11, hX11, hY11⟩ := hHeld
  have B11 := bt (bt (bt (bt C0 hD1) hD2) hD3) hD4
  clear C0 hD1 hD2 hD3 hD4 hX11 hY11
  have g0 := cl_of hG11 0
  have g1 := cl_of hG11 1
  have g2 := cl_of hG11 2
  have p0 := cl_of hP11 0
  have p1 := cl_of hP11 1
  go_wp2_with fail
  refine (M2h.out _).mono ?_
  rintro e w12 ⟨rfl, hB12⟩
  have hG12 := bblk hB12 hG11
  have hP12 := bblk hB12 hP11
  have B12 := bt B11 hB12
  clear hG11 hP11 B11 hB12
  clear g0 g1 g2 p0 p1
  have g0 := cl_of hG12 0
  have g1 := cl_of hG12 1
  have g2 := cl_of hG12 2
  have p0 := cl_of hP12 0
  have p1 := cl_of hP12 1
  by_cases hmm : Mays i b j
  rotate_left
  · obtain rfl : m = false := by cases m; rfl; exact absurd (hmh.out.1 rfl) hmm
    obtain ⟨rfl, rfl, rfl⟩ := P3h.out hmm
    obtain ⟨rfl, rfl, rfl⟩ := I3h.out hmm
    obtain ⟨rfl, rfl⟩ := K3h.out hmm
    obtain ⟨rfl, rfl, rfl⟩ := V3h.out hmm
    obtain ⟨rfl, rfl⟩ := U3h.out hmm
    go_wp2_with fail
    refine (alive05 _).mono ?_
    rintro e w13 ⟨rfl, hB13⟩
    go_wp2_with fail
    go_ret
    exact ⟨rfl, bt B12 hB13⟩
  · obtain rfl : m = true := hmh.out.2 hmm
    obtain ⟨rfl, u2⟩ := U2h.out hmm
    have U2 := Lib.hid u2
    have P2 := Lib.hid (P2h.out hmm)
    have I2 := Lib.hid (I2h.out hmm)
    have K2 := Lib.hid (K2h.out hmm)
    have V2 := Lib.hid (V2h.out hmm)
    clear u2
    go_wp2_with fail
    refine (P2.out _).mono ?_
    rintro e w13 ⟨rfl, hB13⟩
    have hG13 := bblk hB13 hG12
    have hP13 := bblk hB13 hP12
    have B13 := bt B12 hB13
    replace hG13 := blk_old hG13 (.cells #[.int .i64 F, .int .i64 N] 34)
    replace hP13 := blk_old hP13 (.cells #[.int .i64 F, .int .i64 N] 34)
    have hQ13 := hp_new w13 (.cells #[.int .i64 F, .int .i64 N] 34) rfl
    replace B13 := bal B13 (.cells #[.int .i64 F, .int .i64 N] 34)
    clear hG12 hP12 B12 hB13
    clear g0 g1 g2 p0 p1
    have g0 := cl_of hG13 0
    have g1 := cl_of hG13 1
    have g2 := cl_of hG13 2
    have p0 := cl_of hP13 0
    have p1 := cl_of hP13 1
    have q0 := cl_of hQ13 0
    have q1 := cl_of hQ13 1
    go_wp2_with fail
    refine (I2.out _).mono ?_
    rintro e w14 ⟨rfl, hB14⟩
    have hG14 := bblk hB14 hG13
    have hP14 := bblk hB14 hP13
    have hQ14 := bblk hB14 hQ13
    have B14 := bt B13 hB14
    clear hG13 hP13 hQ13 B13 hB14
    clear g0 g1 g2 p0 p1 q0 q1
    have g0 := cl_of hG14 0
    have g1 := cl_of hG14 1
    have g2 := cl_of hG14 2
    have p0 := cl_of hP14 0
    have p1 := cl_of hP14 1
    have q0 := cl_of hQ14 0
    have q1 := cl_of hQ14 1
    go_wp2_with fail
    refine (K2.out _).mono ?_
    rintro e w15 ⟨rfl, hB15⟩
    have hG15 := bblk hB15 hG14
    have hP15 := bblk hB15 hP14
    have hQ15 := bblk hB15 hQ14
    have B15 := bt B14 hB15
    clear hG14 hP14 hQ14 B14 hB15
    clear g0 g1 g2 p0 p1 q0 q1
    have g0 := cl_of hG15 0
    have g1 := cl_of hG15 1
    have g2 := cl_of hG15 2
    have p0 := cl_of hP15 0
    have p1 := cl_of hP15 1
    have q0 := cl_of hQ15 0
    have q1 := cl_of hQ15 1
    go_wp2_with fail
    refine (V2.out _).mono ?_
    rintro e w16 ⟨rfl, hB16⟩
    have hG16 := bblk hB16 hG15
    have hP16 := bblk hB16 hP15
    have hQ16 := bblk hB16 hQ15
    have B16 := bt B15 hB16
    clear hG15 hP15 hQ15 B15 hB16
    clear g0 g1 g2 p0 p1 q0 q1
    have g0 := cl_of hG16 0
    have g1 := cl_of hG16 1
    have g2 := cl_of hG16 2
    have p0 := cl_of hP16 0
    have p1 := cl_of hP16 1
    have q0 := cl_of hQ16 0
    have q1 := cl_of hQ16 1
    go_wp2_with fail
    refine (U2.out _).mono ?_
    rintro e w17 ⟨rfl, hB17⟩
    have hG17 := bblk hB17 hG16
    have hP17 := bblk hB17 hP16
    have hQ17 := bblk hB17 hQ16
    have B17 := bt B16 hB17
    clear hG16 hP16 hQ16 B16 hB17
    clear g0 g1 g2 p0 p1 q0 q1
    have g0 := cl_of hG17 0
    have g1 := cl_of hG17 1
    have g2 := cl_of hG17 2
    have p0 := cl_of hP17 0
    have p1 := cl_of hP17 1
    have q0 := cl_of hQ17 0
    have q1 := cl_of hQ17 1
    go_wp2_with fail
    refine (alive05 _).mono ?_
    rintro e w18 ⟨rfl, hB18⟩
    go_wp2_with fail
    go_ret
    exact ⟨rfl, bt B17 hB18⟩
    end Go.Proofs.Ytcdmipgopffaaaa
