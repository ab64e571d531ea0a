/- The document's answer for package geo: Inode, Block, Where, num, value, Super, Read. -/
import Derived.Test.YtcdmipgopffaaaaGeoRef
import Derived.Test.YtcdmipgopffaaaaNamed
namespace Go.Proofs.Ytcdmipgopffaaaa
open Go.RowKit
set_option maxRecDepth 20000

set_option maxHeartbeats 1000000 in
theorem rinode_no {i b j n : Int} (hm : Mays i b j) (h : ¬ (1 ≤ n ∧ n ≤ i)) (n0 : 0 ≤ n) (_n1 : n < 4294967296) (w : World) : Calls Try.prog 24 #[.agg #[.int .i64 i, .int .i64 b, .int .i64 j], .int .u32 n] w fun e w' => e = .returned (.tuple #[.int .i64 0, .int .i64 0, .int .i64 2]) ∧ Below w.heap.size w w' := by
  have ib := hm.i1
  have ia := hm.i0
  have wi : IntKind.u32.wrap i = i := IntWalk.u32_in _ (by omega)
  by_cases n2 : n < 1
  · go_enter Try.func24, Try.ntmps24
    go_wp2_with fail
    go_ret3
    exact ⟨rfl, bnew _ _⟩
  · have n3 : i < n := by omega
    clear h
    go_enter Try.func24, Try.ntmps24
    go_wp2_with fail
    go_ret3
    exact ⟨rfl, bnew _ _⟩

set_option maxHeartbeats 1000000 in
theorem rinode_yes {i b j n : Int} (hm : Mays i b j) (n0 : 1 ≤ n) (n1 : n ≤ i) (w : World) : Calls Try.prog 24 #[.agg #[.int .i64 i, .int .i64 b, .int .i64 j], .int .u32 n] w fun e w' => e = .returned (.tuple #[.int .i64 (fr i b j 4 + (n - 1) * 32 / 64), .int .i64 ((n - 1) * 32 % 64), .int .i64 0]) ∧ Below w.heap.size w w' := by
  have d0 := hp_new w (.cells #[.int .i64 i, .int .i64 b, .int .i64 j] 23) rfl
  have ib := hm.i1
  have ia := hm.i0
  have wi : IntKind.u32.wrap i = i := IntWalk.u32_in _ (by omega)
  have ec : (32 : Int) * (n - 1) = (n - 1) * 32 := by omega
  have EC := Lib.hid ec
  clear ec
  go_enter Try.func24, Try.ntmps24
  go_wp2_with fail
  refine (rpart_yes hm 4 (by decide) _).mono ?_
  rintro e w1 ⟨rfl, hB⟩
  have B1 := bt (bnew w (.cells #[.int .i64 i, .int .i64 b, .int .i64 j] 23)) hB
  have hfb := fr_bd hm (k := 4) (by decide)
  generalize hF : fr i b j 4 = F at *
  generalize sz i b j 4 = Z at *
  have HF := Lib.hid hF
  clear hF
  go_wp2_with fail
  go_ret3
  exact ⟨by rw [HF.out, ← EC.out]; rfl, bal B1 _⟩

set_option maxHeartbeats 1000000 in
theorem rblock_no {i b j n : Int} (h : ¬ (1 ≤ n ∧ n ≤ b)) (n0 : 0 ≤ n) (_n1 : n < 65536) (w : World) : Calls Try.prog 25 #[.agg #[.int .i64 i, .int .i64 b, .int .i64 j], .int .u16 n] w fun e w' => e = .returned (.tuple #[.int .i64 0, .int .i64 2]) ∧ Below w.heap.size w w' := by
  by_cases n2 : n < 1
  · go_enter Try.func25, Try.ntmps25
    go_wp2_with fail
    go_ret2
    exact ⟨rfl, bnew _ _⟩
  · have n3 : b < n := by omega
    clear h
    go_enter Try.func25, Try.ntmps25
    go_wp2_with fail
    go_ret2
    exact ⟨rfl, bnew _ _⟩

set_option maxHeartbeats 1000000 in
theorem rblock_yes {i b j n : Int} (hm : Mays i b j) (n0 : 1 ≤ n) (n1 : n ≤ b) (w : World) : Calls Try.prog 25 #[.agg #[.int .i64 i, .int .i64 b, .int .i64 j], .int .u16 n] w fun e w' => e = .returned (.tuple #[.int .i64 (fr i b j 5 + n - 1), .int .i64 0]) ∧ Below w.heap.size w w' := by
  have d0 := hp_new w (.cells #[.int .i64 i, .int .i64 b, .int .i64 j] 23) rfl
  have ib := hm.b1
  go_enter Try.func25, Try.ntmps25
  go_wp2_with fail
  refine (rpart_yes hm 5 (by decide) _).mono ?_
  rintro e w1 ⟨rfl, hB⟩
  have B1 := bt (bnew w (.cells #[.int .i64 i, .int .i64 b, .int .i64 j] 23)) hB
  have hfb := fr_bd hm (k := 5) (by decide)
  generalize hF : fr i b j 5 = F at *
  generalize sz i b j 5 = Z at *
  have HF := Lib.hid hF
  clear hF
  go_wp2_with fail
  go_ret2
  exact ⟨by rw [HF.out]; rfl, bal B1 _⟩

set_option maxHeartbeats 2000000 in
theorem rwhere_any {i b j : Int} (h : Mays i b j) (s : Int) (p : Nat) (hp : p ≤ 6) (h0 : (p = 6 ∧ (s < 0 ∨ fr i b j 6 ≤ s)) ∨ (p < 6 ∧ fr i b j p ≤ s ∧ s < fr i b j (p + 1))) (w : World) : Calls Try.prog 26 #[.agg #[.int .i64 i, .int .i64 b, .int .i64 j], .int .i64 s] w fun e w' => e = .returned (if p = 6 then .tuple #[.int .i64 0, .int .i64 0, .int .i64 2] else .tuple #[.int .i64 p, .int .i64 (s - fr i b j p), .int .i64 0]) ∧ Below w.heap.size w w' := by
  have d0 := hp_new w (.cells #[.int .i64 i, .int .i64 b, .int .i64 j] 23) rfl
  have H0 := Lib.hid h0
  clear h0
  go_enter Try.func26, Try.ntmps26
  go_wp2_with fail
  go_loopw [7] (fun v wr => ∃ k : Nat, k ≤ p ∧ v = .int .i64 k ∧ wr.heap[w.heap.size]? = some (.cells #[.int .i64 i, .int .i64 b, .int .i64 j] 23 (0, 0)) ∧ Below w.heap.size w wr) (fun v _ => 6 - (intOf v).toNat)
  case atStart => exact ⟨0, by omega, rfl, d0, bnew _ _⟩
  case round =>
    obtain ⟨k, hk, rfl, hg, hB⟩ := hrel
    clear d0
    have g0 := cl_of hg 0
    have g1 := cl_of hg 1
    have g2 := cl_of hg 2
    by_cases hk6 : k < 6
    · have hfb := fr_bd h (k := k) (by omega)
      have hsb := sz_bd h hk6
      have HS := Lib.hid (fr_succ i b j hk6)
      go_wp2_with fail
      refine (rpart_yes h k hk6 _).mono ?_
      rintro e w1 ⟨rfl, hB1⟩
      have hg1 := blk_old (bblk hB1 hg) (.cells #[.int .i64 (fr i b j k), .int .i64 (sz i b j k)] 34)
      have B1 := bal (bt hB hB1) (.cells #[.int .i64 (fr i b j k), .int .i64 (sz i b j k)] 34)
      clear hB hB1 hg g0 g1 g2
      by_cases hkp : k < p
      · have hno : s < fr i b j k ∨ fr i b j k + sz i b j k ≤ s := by
          rcases H0.out with ⟨_, h1 | h1⟩ | ⟨h1, h2, h3⟩
          · omega
          · right
            have := fr_mono h (k := k + 1) (p := 6) (by omega) (by omega)
            rw [HS.out] at this
            omega
          · right
            have := fr_mono h (k := k + 1) (p := p) (by omega) (by omega)
            rw [HS.out] at this
            omega
        generalize fr i b j k = F at *
        generalize sz i b j k = Z at *
        rcases hno with hno | hno
        · go_wp2_with fail
          go_roundw
          case rel => exact ⟨k + 1, by omega, by go_num, hg1, B1⟩
          case measure => simp [intOf]; omega
        · have hno2 : F ≤ s := by omega
          go_wp2_with fail
          go_roundw
          case rel => exact ⟨k + 1, by omega, by go_num, hg1, B1⟩
          case measure => simp [intOf]; omega
      · obtain rfl : k = p := by omega
        have hyes : fr i b j k ≤ s ∧ s < fr i b j k + sz i b j k := by
          rcases H0.out with ⟨h1, _⟩ | ⟨h1, h2, h3⟩
          · omega
          · rw [HS.out] at h3
            exact ⟨h2, h3⟩
        obtain ⟨y0, y1⟩ := hyes
        generalize hF : fr i b j k = F at *
        generalize sz i b j k = Z at *
        have HF := Lib.hid hF
        clear hF
        go_wp2_with fail
        go_region
        go_wp2_with fail
        go_ret3
        exact ⟨by rw [HF.out]; rfl, B1.drew⟩
    · obtain rfl : k = 6 := by omega
      obtain rfl : p = 6 := by omega
      go_wp2_with fail
      go_ret3
      exact ⟨rfl, hB⟩

theorem wrap_u8 (v : Int) : IntKind.u8.wrap v = v % 256 := by rw [IntKind.wrap_u8]
theorem bytes4 (n : Nat) : bytesLE n 4 = [UInt8.ofNat (n % 256), UInt8.ofNat (n / 256 % 256), UInt8.ofNat (n / 256 / 256 % 256), UInt8.ofNat (n / 256 / 256 / 256 % 256)] := rfl
set_option maxHeartbeats 2000000 in
theorem rnum_any (v : Int) (h0 : 0 ≤ v) (h1 : v ≤ 2000) (w : World) : Calls Try.prog 49 #[.int .i64 v] w fun e w' => e = .returned (.string (bs (bytesLE v.toNat 4))) ∧ Below w.heap.size w w' := by
  have hb : bc (bytesLE v.toNat 4) = #[.int .u8 (v % 256), .int .u8 (v / 256 % 256), .int .u8 (v / 65536 % 256), .int .u8 (v / 16777216 % 256)] := by
    rw [bytes4]
    simp only [bc, List.map_cons, List.map_nil]
    have e0 : ((UInt8.ofNat (v.toNat % 256)).toNat : Int) = v % 256 := by simp; omega
    have e1 : ((UInt8.ofNat (v.toNat / 256 % 256)).toNat : Int) = v / 256 % 256 := by simp; omega
    have e2 : ((UInt8.ofNat (v.toNat / 256 / 256 % 256)).toNat : Int) = v / 65536 % 256 := by simp; omega
    have e3 : ((UInt8.ofNat (v.toNat / 256 / 256 / 256 % 256)).toNat : Int) = v / 16777216 % 256 := by simp; omega
    rw [e0, e1, e2, e3]
  have hcv := conv_new (bytesLE v.toNat 4) 4 (bytesLE_length 4 _)
  rw [hb] at hcv
  clear hb
  have k0 := wrap_u8 v
  have k1 := wrap_u8 (v / 256)
  have k2 := wrap_u8 (v / 65536)
  have k3 := wrap_u8 (v / 16777216)
  go_enter Try.func49, Try.ntmps49
  go_wp2_with fail
  go_ret
  exact ⟨rfl, bnew _ _⟩

theorem le4 (a b c d : UInt8) : ((le [a, b, c, d] : Nat) : Int) = a.toNat + b.toNat * 256 + c.toNat * 65536 + d.toNat * 16777216 := by simp [le]; omega
set_option maxHeartbeats 2000000 in
theorem rvalue_any (a b c d : UInt8) (w : World) : Calls Try.prog 47 #[.string (bs [a, b, c, d])] w fun e w' => e = .returned (.int .i64 (le [a, b, c, d] : Nat)) ∧ Below w.heap.size w w' := by
  have hs : (bs [a, b, c, d]).size = 4 := bs_size _
  have ha := a.toNat_lt
  have hb := b.toNat_lt
  have hc := c.toNat_lt
  have hd := d.toNat_lt
  rw [le4]
  have i0 : ∀ W, (Instr.index 9 (.string (bs [a, b, c, d])) (.int .i64 0)).run Try.prog W = .ok (.int .u8 (a.toNat : Int)) W := fun _ => by kernel_rfl
  have i1 : ∀ W, (Instr.index 9 (.string (bs [a, b, c, d])) (.int .i64 1)).run Try.prog W = .ok (.int .u8 (b.toNat : Int)) W := fun _ => by kernel_rfl
  have i2 : ∀ W, (Instr.index 9 (.string (bs [a, b, c, d])) (.int .i64 2)).run Try.prog W = .ok (.int .u8 (c.toNat : Int)) W := fun _ => by kernel_rfl
  have i3 : ∀ W, (Instr.index 9 (.string (bs [a, b, c, d])) (.int .i64 3)).run Try.prog W = .ok (.int .u8 (d.toNat : Int)) W := fun _ => by kernel_rfl
  have ha' : 0 ≤ (a.toNat : Int) ∧ (a.toNat : Int) < 256 := by omega
  have hb' : 0 ≤ (b.toNat : Int) ∧ (b.toNat : Int) < 256 := by omega
  have hc' : 0 ≤ (c.toNat : Int) ∧ (c.toNat : Int) < 256 := by omega
  have hd' : 0 ≤ (d.toNat : Int) ∧ (d.toNat : Int) < 256 := by omega
  generalize (a.toNat : Int) = A at *
  generalize (b.toNat : Int) = B at *
  generalize (c.toNat : Int) = C at *
  generalize (d.toNat : Int) = D at *
  go_enter Try.func47, Try.ntmps47
  go_wp2_with fail
  go_quiet (fail)
  go_wp2_with fail
  go_ret
  exact ⟨congrArg (fun x => Ending.returned (Value.int .i64 x)) (by first | rfl | (simp only [wrap64]; omega)), ⟨rfl, rfl, rfl, Nat.le_refl _, fun _ _ => rfl⟩⟩

def supr (i b j : Int) : List UInt8 := magic ++ bytesLE i.toNat 4 ++ bytesLE b.toNat 4 ++ bytesLE j.toNat 4 ++ zeros 44
theorem supr_eq (i b j : Int) : supr i b j = sup i b j := by simp [supr, sup, pre, gvals]
theorem keep3 {W W' : World} {a : Nat} {v0 v1 v2 : Value} (hb : Below W.heap.size W W') (h : W.cell? ⟨a, 0, none⟩ = some v0 ∧ W.cell? ⟨a, 1, none⟩ = some v1 ∧ W.cell? ⟨a, 2, none⟩ = some v2) :
    W'.cell? ⟨a, 0, none⟩ = some v0 ∧ W'.cell? ⟨a, 1, none⟩ = some v1 ∧ W'.cell? ⟨a, 2, none⟩ = some v2 := ⟨cellb hb h.1, cellb hb h.2.1, cellb hb h.2.2⟩
theorem cella {W : World} {o : Obj} {b i : Nat} {v : Value} (h : W.cell? ⟨b, i, none⟩ = some v) : (W.alloc o).cell? ⟨b, i, none⟩ = some v := cellb (bnew W o) h
theorem keep3a {W : World} {a : Nat} {v0 v1 v2 : Value} {o : Obj} (h : W.cell? ⟨a, 0, none⟩ = some v0 ∧ W.cell? ⟨a, 1, none⟩ = some v1 ∧ W.cell? ⟨a, 2, none⟩ = some v2) :
    (W.alloc o).cell? ⟨a, 0, none⟩ = some v0 ∧ (W.alloc o).cell? ⟨a, 1, none⟩ = some v1 ∧ (W.alloc o).cell? ⟨a, 2, none⟩ = some v2 := ⟨cella h.1, cella h.2.1, cella h.2.2⟩
theorem conv_drew (l : List UInt8) (n : Nat) (hn : l.length = n) (w : World) : (convert 31 9 (.slice (some ⟨w.heap.size, 0, none⟩) n n)).run Try.prog (w.alloc (.cells (bc l) 5)).drew = .ok (.string (bs l)) (w.alloc (.cells (bc l) 5)).drew := by
  subst hn
  exact run_convert_bytes_back (P := Try.prog) (w.alloc (.cells (bc l) 5)).drew 31 9 5 ⟨w.heap.size, 0, none⟩ l.length l Try.underlying31 Try.underlying5 Try.underlying9 (fun j hj => by
    rw [Addr.add_lit, Nat.zero_add]
    exact (cl_of (hp_new w (.cells (bc l) 5) rfl) j).trans (bc_get hj))
theorem conv_of {W : World} {b : Nat} {l : List UInt8} (h : W.heap[b]? = some (.cells (bc l) 5 (0, 0))) {n : Nat} (hn : l.length = n) : (convert 31 9 (.slice (some ⟨b, 0, none⟩) n n)).run Try.prog W = .ok (.string (bs l)) W := by
  subst hn
  exact run_convert_bytes_back (P := Try.prog) W 31 9 5 ⟨b, 0, none⟩ l.length l Try.underlying31 Try.underlying5 Try.underlying9 (fun j hj => by
    rw [Addr.add_lit, Nat.zero_add]
    exact (cl_of h j).trans (bc_get hj))
theorem bs_of_lit (l : List UInt8) : (⟨l.toArray⟩ : ByteArray) = bs l := rfl

set_option maxHeartbeats 4000000 in
theorem rsuper_any {i b j : Int} (h : Mays i b j) (w : World) : Calls Try.prog 27 #[.agg #[.int .i64 i, .int .i64 b, .int .i64 j]] w fun e w' => e = .returned (.string (bs (sup i b j))) ∧ Below w.heap.size w w' := by
  obtain ⟨i0, i1, b0, b1, j0, j1⟩ := h
  rw [← supr_eq]
  have hmk : ∀ W : World, (Instr.makeSlice 31 (.int .i64 44) (.int .i64 44)).run Try.prog W = .ok (.slice (some ⟨W.heap.size, 0, none⟩) 44 44) (W.alloc (.cells (bc (zeros 44)) 5)) := make_zeros 44 (by decide)
  have hcv : ∀ W : World, (convert 31 9 (.slice (some ⟨W.heap.size, 0, none⟩) 44 44)).run Try.prog (W.alloc (.cells (bc (zeros 44)) 5)) = .ok (.string (bs (zeros 44))) (W.alloc (.cells (bc (zeros 44)) 5)) := conv_new (zeros 44) 44 (zeros_length 44)
  have hcd : ∀ W : World, (convert 31 9 (.slice (some ⟨W.heap.size, 0, none⟩) 44 44)).run Try.prog (W.alloc (.cells (bc (zeros 44)) 5)).drew = .ok (.string (bs (zeros 44))) (W.alloc (.cells (bc (zeros 44)) 5)).drew := fun W => conv_drew (zeros 44) 44 (zeros_length 44) W
  have d0 := hp_new w (.cells #[.int .i64 i, .int .i64 b, .int .i64 j] 23) rfl
  have g0 := cl_of d0 0
  have g1 := cl_of d0 1
  have g2 := cl_of d0 2
  have a1 : (⟨#[108, 117, 110, 101, 116, 116, 101, 49]⟩ : ByteArray) ++ bs (bytesLE i.toNat 4) = bs (magic ++ bytesLE i.toNat 4) := bs_append magic _
  have a2 := bs_append (magic ++ bytesLE i.toNat 4) (bytesLE b.toNat 4)
  have a3 := bs_append (magic ++ bytesLE i.toNat 4 ++ bytesLE b.toNat 4) (bytesLE j.toNat 4)
  have a4 := bs_append (magic ++ bytesLE i.toNat 4 ++ bytesLE b.toNat 4 ++ bytesLE j.toNat 4) (zeros 44)
  have s1 : (bs (bytesLE i.toNat 4)).size = 4 := by rw [bs_size, bytesLE_length]
  have s2 : (bs (bytesLE b.toNat 4)).size = 4 := by rw [bs_size, bytesLE_length]
  have s3 : (bs (bytesLE j.toNat 4)).size = 4 := by rw [bs_size, bytesLE_length]
  have s4 : (bs (zeros 44)).size = 44 := by rw [bs_size, zeros_length]
  have t1 : (bs (magic ++ bytesLE i.toNat 4)).size = 12 := by rw [bs_size, List.length_append, bytesLE_length]; rfl
  have t2 : (bs (magic ++ bytesLE i.toNat 4 ++ bytesLE b.toNat 4)).size = 16 := by rw [bs_size]; simp [bytesLE_length, magic]
  have t3 : (bs (magic ++ bytesLE i.toNat 4 ++ bytesLE b.toNat 4 ++ bytesLE j.toNat 4)).size = 20 := by rw [bs_size]; simp [bytesLE_length, magic]
  have HS : Hid (supr i b j = magic ++ bytesLE i.toNat 4 ++ bytesLE b.toNat 4 ++ bytesLE j.toNat 4 ++ zeros 44) := rfl
  have n1 := rnum_any i (by omega) (by omega)
  have n2 := rnum_any b (by omega) (by omega)
  have n3 := rnum_any j (by omega) (by omega)
  have hzl := zeros_length 44
  generalize zeros 44 = Z at *
  generalize magic ++ bytesLE i.toNat 4 ++ bytesLE b.toNat 4 ++ bytesLE j.toNat 4 ++ Z = L4 at *
  generalize magic ++ bytesLE i.toNat 4 ++ bytesLE b.toNat 4 ++ bytesLE j.toNat 4 = L3 at *
  generalize magic ++ bytesLE i.toNat 4 ++ bytesLE b.toNat 4 = L2 at *
  generalize magic ++ bytesLE i.toNat 4 = L1 at *
  generalize bytesLE i.toNat 4 = M1 at *
  generalize bytesLE b.toNat 4 = M2 at *
  generalize bytesLE j.toNat 4 = M3 at *
  have HZL := Lib.hid hzl
  clear hzl
  have N1 := Lib.hid n1
  have N2 := Lib.hid n2
  have N3 := Lib.hid n3
  clear n1 n2 n3
  go_enter Try.func27, Try.ntmps27
  go_wp2_with fail
  refine wp_region_noPanic ?_
  refine region_namedH (S := (fun W => W.cell? ⟨w.heap.size, 0, none⟩ = some (.int .i64 i) ∧ W.cell? ⟨w.heap.size, 1, none⟩ = some (.int .i64 b) ∧ W.cell? ⟨w.heap.size, 2, none⟩ = some (.int .i64 j))) (by kernel_rfl) (fun W2 HW2 => ⟨by rw [HW2.out]; exact ⟨g0, g1, g2⟩, fun hHeld => ?_⟩)
  have B0 : Below w.heap.size w W2 := by rw [HW2.out]; exact (bnew _ _).drew
  clear d0 g0 g1 g2 hcd
  refine wpAnyH_now (i := 0) (v := ?v700) rfl (by kernel_rfl) (by kernel_rfl) (by kernel_rfl) (fun _ _ _ h => h) (by rfl) ?h700 (by assumption) ?_
  case h700 => ((intro w hSw; (try dsimp only at hSw); go_simp); try with_reducible rfl)
  (try simp only [Act.put, List.setIfInBounds_toArray, List.set_cons_succ, List.set_cons_zero])
  refine wpAnyH_now (i := 1) (v := ?v701) rfl (by kernel_rfl) (by kernel_rfl) (by kernel_rfl) (fun _ _ _ h => h) (by rfl) ?h701 (by assumption) ?_
  case h701 => ((intro w hSw; (try dsimp only at hSw); go_simp); try with_reducible rfl)
  (try simp only [Act.put, List.setIfInBounds_toArray, List.set_cons_succ, List.set_cons_zero])
  refine wpAnyH_now (i := 4) (v := ?v702) rfl (by kernel_rfl) (by kernel_rfl) (by kernel_rfl) (fun _ _ _ h => h) (by rfl) ?h702 (by assumption) ?_
  case h702 => ((intro w hSw; (try dsimp only at hSw); go_simp); try with_reducible rfl)
  (try simp only [Act.put, List.setIfInBounds_toArray, List.set_cons_succ, List.set_cons_zero])
  refine wpAnyH_now (i := 5) (v := ?v703) rfl (by kernel_rfl) (by kernel_rfl) (by kernel_rfl) (fun _ _ _ h => h) (by rfl) ?h703 (by assumption) ?_
  case h703 => ((intro w hSw; (try dsimp only at hSw); go_simp); try with_reducible rfl)
  (try simp only [Act.put, List.setIfInBounds_toArray, List.set_cons_succ, List.set_cons_zero])
  refine wpAnyH_now (i := 8) (v := ?v704) rfl (by kernel_rfl) (by kernel_rfl) (by kernel_rfl) (fun _ _ _ h => h) (by rfl) ?h704 (by assumption) ?_
  case h704 => ((intro w hSw; (try dsimp only at hSw); go_simp); try with_reducible rfl)
  (try simp only [Act.put, List.setIfInBounds_toArray, List.set_cons_succ, List.set_cons_zero])
  refine wpAnyH_now (i := 9) (v := ?v705) rfl (by kernel_rfl) (by kernel_rfl) (by kernel_rfl) (fun _ _ _ h => h) (by rfl) ?h705 (by assumption) ?_
  case h705 => ((intro w hSw; (try dsimp only at hSw); go_simp); try with_reducible rfl)
  (try simp only [Act.put, List.setIfInBounds_toArray, List.set_cons_succ, List.set_cons_zero])
  refine wpAnyH_two (i := 2) (j := 12) (by kernel_rfl) rfl rfl (by rfl) (by rfl) (fun K hK => ?_) (fun K hK => ?_)
  · go_simp
    refine (N1.out _).mono ?_
    rintro e w1 ⟨rfl, hw1⟩
    refine hK.out _ _ (by exact keep3 hw1 hHeld) (fun hHeld => ?_)
    clear hK K
    (try simp only [Act.put, List.setIfInBounds_toArray, List.set_cons_succ, List.set_cons_zero])
    refine wpAnyH_now (i := 3) (v := ?v706) rfl (by kernel_rfl) (by kernel_rfl) (by kernel_rfl) (fun _ _ _ h => h) (by rfl) ?h706 (by assumption) ?_
    case h706 => ((intro w hSw; (try dsimp only at hSw); go_simp); try with_reducible rfl)
    (try simp only [Act.put, List.setIfInBounds_toArray, List.set_cons_succ, List.set_cons_zero])
    refine wpAnyH_two (i := 6) (j := 12) (by kernel_rfl) rfl rfl (by rfl) (by rfl) (fun K hK => ?_) (fun K hK => ?_)
    · go_simp
      refine (N2.out _).mono ?_
      rintro e w2 ⟨rfl, hw2⟩
      refine hK.out _ _ (by exact keep3 hw2 hHeld) (fun hHeld => ?_)
      clear hK K
      (try simp only [Act.put, List.setIfInBounds_toArray, List.set_cons_succ, List.set_cons_zero])
      refine wpAnyH_now (i := 7) (v := ?v707) rfl (by kernel_rfl) (by kernel_rfl) (by kernel_rfl) (fun _ _ _ h => h) (by rfl) ?h707 (by assumption) ?_
      case h707 => ((intro w hSw; (try dsimp only at hSw); go_simp); try with_reducible rfl)
      (try simp only [Act.put, List.setIfInBounds_toArray, List.set_cons_succ, List.set_cons_zero])
      refine wpAnyH_two (i := 10) (j := 12) (by kernel_rfl) rfl rfl (by rfl) (by rfl) (fun K hK => ?_) (fun K hK => ?_)
      · go_simp
        refine (N3.out _).mono ?_
        rintro e w3 ⟨rfl, hw3⟩
        refine hK.out _ _ (by exact keep3 hw3 hHeld) (fun hHeld => ?_)
        clear hK K
        (try simp only [Act.put, List.setIfInBounds_toArray, List.set_cons_succ, List.set_cons_zero])
        refine wpAnyH_now (i := 11) (v := ?v708) rfl (by kernel_rfl) (by kernel_rfl) (by kernel_rfl) (fun _ _ _ h => h) (by rfl) ?h708 (by assumption) ?_
        case h708 => ((intro w hSw; (try dsimp only at hSw); go_simp); try with_reducible rfl)
        (try simp only [Act.put, List.setIfInBounds_toArray, List.set_cons_succ, List.set_cons_zero])
        refine wpAnyH_only (i := 12) (by kernel_rfl) rfl (by rfl) (fun K hK => ?_)
        go_simp
        refine hK.out _ _ (by exact keep3a hHeld) (fun hHeld => ?_)
        clear hK K
        (try simp only [Act.put, List.setIfInBounds_toArray, List.set_cons_succ, List.set_cons_zero])
        refine wpAnyH_more (fun W => (W.cell? ⟨w.heap.size, 0, none⟩ = some (.int .i64 i) ∧ W.cell? ⟨w.heap.size, 1, none⟩ = some (.int .i64 b) ∧ W.cell? ⟨w.heap.size, 2, none⟩ = some (.int .i64 j)) ∧ W.heap[w3.heap.size]? = some (.cells (bc Z) 5 (0, 0))) (fun _ h => h.1) ⟨hHeld, hp_new _ _ rfl⟩ (fun hHeld => ?_)
        refine wpAnyH_now (i := 13) (v := ?v709) rfl (by kernel_rfl) (by kernel_rfl) (by kernel_rfl) (fun _ _ _ h => h) (by rfl) ?h709 (by assumption) ?_
        case h709 => ((intro w hSw; (try dsimp only at hSw); have hcv := conv_of hSw.2 HZL.out; go_simp); try with_reducible rfl)
        (try simp only [Act.put, List.setIfInBounds_toArray, List.set_cons_succ, List.set_cons_zero])
        refine wpAnyH_now (i := 14) (v := ?v710) rfl (by kernel_rfl) (by kernel_rfl) (by kernel_rfl) (fun _ _ _ h => h) (by rfl) ?h710 (by assumption) ?_
        case h710 => ((intro w hSw; (try dsimp only at hSw); go_simp); try with_reducible rfl)
        (try simp only [Act.put, List.setIfInBounds_toArray, List.set_cons_succ, List.set_cons_zero])
        refine wpAnyH_now (i := 15) (v := ?v711) rfl (by kernel_rfl) (by kernel_rfl) (by kernel_rfl) (fun _ _ _ h => h) (by rfl) ?h711 (by assumption) ?_
        case h711 => ((intro w hSw; (try dsimp only at hSw); go_simp); try with_reducible rfl)
        (try simp only [Act.put, List.setIfInBounds_toArray, List.set_cons_succ, List.set_cons_zero])
        refine wpAnyH_done (by kernel_rfl) ?_ _
        refine NoPanic.normal ?_
        go_wp2_with fail
        go_ret
        exact ⟨by rw [HS.out]; rfl, bal (bt (bt (bt B0 hw1) hw2) hw3) _⟩
      · go_simp
        refine hK.out _ _ (by exact keep3a hHeld) (fun hHeld => ?_)
        clear hK K
        (try simp only [Act.put, List.setIfInBounds_toArray, List.set_cons_succ, List.set_cons_zero])
        refine wpAnyH_more (fun W => (W.cell? ⟨w.heap.size, 0, none⟩ = some (.int .i64 i) ∧ W.cell? ⟨w.heap.size, 1, none⟩ = some (.int .i64 b) ∧ W.cell? ⟨w.heap.size, 2, none⟩ = some (.int .i64 j)) ∧ W.heap[w2.heap.size]? = some (.cells (bc Z) 5 (0, 0))) (fun _ h => h.1) ⟨hHeld, hp_new _ _ rfl⟩ (fun hHeld => ?_)
        refine wpAnyH_now (i := 13) (v := ?v712) rfl (by kernel_rfl) (by kernel_rfl) (by kernel_rfl) (fun _ _ _ h => h) (by rfl) ?h712 (by assumption) ?_
        case h712 => ((intro w hSw; (try dsimp only at hSw); have hcv := conv_of hSw.2 HZL.out; go_simp); try with_reducible rfl)
        (try simp only [Act.put, List.setIfInBounds_toArray, List.set_cons_succ, List.set_cons_zero])
        refine wpAnyH_only (i := 10) (by kernel_rfl) rfl (by rfl) (fun K hK => ?_)
        go_simp
        refine (N3.out _).mono ?_
        rintro e w3 ⟨rfl, hw3⟩
        refine hK.out _ _ (by exact ⟨keep3 hw3 hHeld.1, bblk hw3 hHeld.2⟩) (fun hHeld => ?_)
        clear hK K
        (try simp only [Act.put, List.setIfInBounds_toArray, List.set_cons_succ, List.set_cons_zero])
        refine wpAnyH_now (i := 11) (v := ?v713) rfl (by kernel_rfl) (by kernel_rfl) (by kernel_rfl) (fun _ _ _ h => h) (by rfl) ?h713 (by assumption) ?_
        case h713 => ((intro w hSw; (try dsimp only at hSw); go_simp); try with_reducible rfl)
        (try simp only [Act.put, List.setIfInBounds_toArray, List.set_cons_succ, List.set_cons_zero])
        refine wpAnyH_now (i := 14) (v := ?v714) rfl (by kernel_rfl) (by kernel_rfl) (by kernel_rfl) (fun _ _ _ h => h) (by rfl) ?h714 (by assumption) ?_
        case h714 => ((intro w hSw; (try dsimp only at hSw); go_simp); try with_reducible rfl)
        (try simp only [Act.put, List.setIfInBounds_toArray, List.set_cons_succ, List.set_cons_zero])
        refine wpAnyH_now (i := 15) (v := ?v715) rfl (by kernel_rfl) (by kernel_rfl) (by kernel_rfl) (fun _ _ _ h => h) (by rfl) ?h715 (by assumption) ?_
        case h715 => ((intro w hSw; (try dsimp only at hSw); go_simp); try with_reducible rfl)
        (try simp only [Act.put, List.setIfInBounds_toArray, List.set_cons_succ, List.set_cons_zero])
        refine wpAnyH_done (by kernel_rfl) ?_ _
        refine NoPanic.normal ?_
        go_wp2_with fail
        go_ret
        exact ⟨by rw [HS.out]; rfl, bt (bal (bt (bt B0 hw1) hw2) _) hw3⟩
    · go_simp
      refine hK.out _ _ (by exact keep3a hHeld) (fun hHeld => ?_)
      clear hK K
      (try simp only [Act.put, List.setIfInBounds_toArray, List.set_cons_succ, List.set_cons_zero])
      refine wpAnyH_more (fun W => (W.cell? ⟨w.heap.size, 0, none⟩ = some (.int .i64 i) ∧ W.cell? ⟨w.heap.size, 1, none⟩ = some (.int .i64 b) ∧ W.cell? ⟨w.heap.size, 2, none⟩ = some (.int .i64 j)) ∧ W.heap[w1.heap.size]? = some (.cells (bc Z) 5 (0, 0))) (fun _ h => h.1) ⟨hHeld, hp_new _ _ rfl⟩ (fun hHeld => ?_)
      refine wpAnyH_now (i := 13) (v := ?v716) rfl (by kernel_rfl) (by kernel_rfl) (by kernel_rfl) (fun _ _ _ h => h) (by rfl) ?h716 (by assumption) ?_
      case h716 => ((intro w hSw; (try dsimp only at hSw); have hcv := conv_of hSw.2 HZL.out; go_simp); try with_reducible rfl)
      (try simp only [Act.put, List.setIfInBounds_toArray, List.set_cons_succ, List.set_cons_zero])
      refine wpAnyH_only (i := 6) (by kernel_rfl) rfl (by rfl) (fun K hK => ?_)
      go_simp
      refine (N2.out _).mono ?_
      rintro e w2 ⟨rfl, hw2⟩
      refine hK.out _ _ (by exact ⟨keep3 hw2 hHeld.1, bblk hw2 hHeld.2⟩) (fun hHeld => ?_)
      clear hK K
      (try simp only [Act.put, List.setIfInBounds_toArray, List.set_cons_succ, List.set_cons_zero])
      refine wpAnyH_now (i := 7) (v := ?v717) rfl (by kernel_rfl) (by kernel_rfl) (by kernel_rfl) (fun _ _ _ h => h) (by rfl) ?h717 (by assumption) ?_
      case h717 => ((intro w hSw; (try dsimp only at hSw); go_simp); try with_reducible rfl)
      (try simp only [Act.put, List.setIfInBounds_toArray, List.set_cons_succ, List.set_cons_zero])
      refine wpAnyH_only (i := 10) (by kernel_rfl) rfl (by rfl) (fun K hK => ?_)
      go_simp
      refine (N3.out _).mono ?_
      rintro e w3 ⟨rfl, hw3⟩
      refine hK.out _ _ (by exact ⟨keep3 hw3 hHeld.1, bblk hw3 hHeld.2⟩) (fun hHeld => ?_)
      clear hK K
      (try simp only [Act.put, List.setIfInBounds_toArray, List.set_cons_succ, List.set_cons_zero])
      refine wpAnyH_now (i := 11) (v := ?v718) rfl (by kernel_rfl) (by kernel_rfl) (by kernel_rfl) (fun _ _ _ h => h) (by rfl) ?h718 (by assumption) ?_
      case h718 => ((intro w hSw; (try dsimp only at hSw); go_simp); try with_reducible rfl)
      (try simp only [Act.put, List.setIfInBounds_toArray, List.set_cons_succ, List.set_cons_zero])
      refine wpAnyH_now (i := 14) (v := ?v719) rfl (by kernel_rfl) (by kernel_rfl) (by kernel_rfl) (fun _ _ _ h => h) (by rfl) ?h719 (by assumption) ?_
      case h719 => ((intro w hSw; (try dsimp only at hSw); go_simp); try with_reducible rfl)
      (try simp only [Act.put, List.setIfInBounds_toArray, List.set_cons_succ, List.set_cons_zero])
      refine wpAnyH_now (i := 15) (v := ?v720) rfl (by kernel_rfl) (by kernel_rfl) (by kernel_rfl) (fun _ _ _ h => h) (by rfl) ?h720 (by assumption) ?_
      case h720 => ((intro w hSw; (try dsimp only at hSw); go_simp); try with_reducible rfl)
      (try simp only [Act.put, List.setIfInBounds_toArray, List.set_cons_succ, List.set_cons_zero])
      refine wpAnyH_done (by kernel_rfl) ?_ _
      refine NoPanic.normal ?_
      go_wp2_with fail
      go_ret
      exact ⟨by rw [HS.out]; rfl, bt (bt (bal (bt B0 hw1) _) hw2) hw3⟩
  · go_simp
    refine hK.out _ _ (by exact keep3a hHeld) (fun hHeld => ?_)
    clear hK K
    (try simp only [Act.put, List.setIfInBounds_toArray, List.set_cons_succ, List.set_cons_zero])
    refine wpAnyH_more (fun W => (W.cell? ⟨w.heap.size, 0, none⟩ = some (.int .i64 i) ∧ W.cell? ⟨w.heap.size, 1, none⟩ = some (.int .i64 b) ∧ W.cell? ⟨w.heap.size, 2, none⟩ = some (.int .i64 j)) ∧ W.heap[W2.heap.size]? = some (.cells (bc Z) 5 (0, 0))) (fun _ h => h.1) ⟨hHeld, hp_new _ _ rfl⟩ (fun hHeld => ?_)
    refine wpAnyH_now (i := 13) (v := ?v721) rfl (by kernel_rfl) (by kernel_rfl) (by kernel_rfl) (fun _ _ _ h => h) (by rfl) ?h721 (by assumption) ?_
    case h721 => ((intro w hSw; (try dsimp only at hSw); have hcv := conv_of hSw.2 HZL.out; go_simp); try with_reducible rfl)
    (try simp only [Act.put, List.setIfInBounds_toArray, List.set_cons_succ, List.set_cons_zero])
    refine wpAnyH_only (i := 2) (by kernel_rfl) rfl (by rfl) (fun K hK => ?_)
    go_simp
    refine (N1.out _).mono ?_
    rintro e w1 ⟨rfl, hw1⟩
    refine hK.out _ _ (by exact ⟨keep3 hw1 hHeld.1, bblk hw1 hHeld.2⟩) (fun hHeld => ?_)
    clear hK K
    (try simp only [Act.put, List.setIfInBounds_toArray, List.set_cons_succ, List.set_cons_zero])
    refine wpAnyH_now (i := 3) (v := ?v722) rfl (by kernel_rfl) (by kernel_rfl) (by kernel_rfl) (fun _ _ _ h => h) (by rfl) ?h722 (by assumption) ?_
    case h722 => ((intro w hSw; (try dsimp only at hSw); go_simp); try with_reducible rfl)
    (try simp only [Act.put, List.setIfInBounds_toArray, List.set_cons_succ, List.set_cons_zero])
    refine wpAnyH_only (i := 6) (by kernel_rfl) rfl (by rfl) (fun K hK => ?_)
    go_simp
    refine (N2.out _).mono ?_
    rintro e w2 ⟨rfl, hw2⟩
    refine hK.out _ _ (by exact ⟨keep3 hw2 hHeld.1, bblk hw2 hHeld.2⟩) (fun hHeld => ?_)
    clear hK K
    (try simp only [Act.put, List.setIfInBounds_toArray, List.set_cons_succ, List.set_cons_zero])
    refine wpAnyH_now (i := 7) (v := ?v723) rfl (by kernel_rfl) (by kernel_rfl) (by kernel_rfl) (fun _ _ _ h => h) (by rfl) ?h723 (by assumption) ?_
    case h723 => ((intro w hSw; (try dsimp only at hSw); go_simp); try with_reducible rfl)
    (try simp only [Act.put, List.setIfInBounds_toArray, List.set_cons_succ, List.set_cons_zero])
    refine wpAnyH_only (i := 10) (by kernel_rfl) rfl (by rfl) (fun K hK => ?_)
    go_simp
    refine (N3.out _).mono ?_
    rintro e w3 ⟨rfl, hw3⟩
    refine hK.out _ _ (by exact ⟨keep3 hw3 hHeld.1, bblk hw3 hHeld.2⟩) (fun hHeld => ?_)
    clear hK K
    (try simp only [Act.put, List.setIfInBounds_toArray, List.set_cons_succ, List.set_cons_zero])
    refine wpAnyH_now (i := 11) (v := ?v724) rfl (by kernel_rfl) (by kernel_rfl) (by kernel_rfl) (fun _ _ _ h => h) (by rfl) ?h724 (by assumption) ?_
    case h724 => ((intro w hSw; (try dsimp only at hSw); go_simp); try with_reducible rfl)
    (try simp only [Act.put, List.setIfInBounds_toArray, List.set_cons_succ, List.set_cons_zero])
    refine wpAnyH_now (i := 14) (v := ?v725) rfl (by kernel_rfl) (by kernel_rfl) (by kernel_rfl) (fun _ _ _ h => h) (by rfl) ?h725 (by assumption) ?_
    case h725 => ((intro w hSw; (try dsimp only at hSw); go_simp); try with_reducible rfl)
    (try simp only [Act.put, List.setIfInBounds_toArray, List.set_cons_succ, List.set_cons_zero])
    refine wpAnyH_now (i := 15) (v := ?v726) rfl (by kernel_rfl) (by kernel_rfl) (by kernel_rfl) (fun _ _ _ h => h) (by rfl) ?h726 (by assumption) ?_
    case h726 => ((intro w hSw; (try dsimp only at hSw); go_simp); try with_reducible rfl)
    (try simp only [Act.put, List.setIfInBounds_toArray, List.set_cons_succ, List.set_cons_zero])
    refine wpAnyH_done (by kernel_rfl) ?_ _
    refine NoPanic.normal ?_
    go_wp2_with fail
    go_ret
    exact ⟨by rw [HS.out]; rfl, bt (bt (bt (bal B0 _) hw1) hw2) hw3⟩
end Go.Proofs.Ytcdmipgopffaaaa
