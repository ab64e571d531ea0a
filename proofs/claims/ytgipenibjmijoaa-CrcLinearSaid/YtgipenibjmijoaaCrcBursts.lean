/- The law CrcBursts: whoever turns bits of a sealed text that lie within 32 in a row has none that opens. -/
import Derived.Test.YtgipenibjmijoaaCrcLaws
namespace Go.Proofs.Ytgipenibjmijoaa
open Go.RowKit

theorem wf_u16 {x : Int} (h : (Lit.int .u16 x).wf = true) : 0 ≤ x ∧ x < 65536 := by
  simp [Lit.wf, IntKind.min, IntKind.max, IntKind.signed, IntKind.bits] at h
  omega

theorem mul_xor (n a b : Nat) : 2 ^ n * (a ^^^ b) = 2 ^ n * a ^^^ 2 ^ n * b := by
  have := @Nat.shiftLeft_xor_distrib n a b
  simpa [Nat.shiftLeft_eq, Nat.mul_comm] using this

theorem le_set (l : List UInt8) : ∀ (k : Nat) (h : k < l.length) (y : UInt8), le (l.set k (l[k] ^^^ y)) = le l ^^^ 2 ^ (8 * k) * y.toNat := by
  induction l with
  | nil => intro k h; simp at h
  | cons b l ih =>
    intro k h y
    have hb : b.toNat < 2 ^ 8 := b.toNat_lt
    have hy : (b ^^^ y).toNat < 2 ^ 8 := (b ^^^ y).toNat_lt
    cases k with
    | zero =>
      simp only [List.set_cons_zero, List.getElem_cons_zero, le]
      have e1 := join_xor 8 _ (le l) hy
      have e2 := join_xor 8 _ (le l) hb
      rw [show (256 : Nat) = 2 ^ 8 by rfl, e1, e2, UInt8.toNat_xor, Nat.mul_zero, Nat.pow_zero, Nat.one_mul, Nat.xor_assoc, Nat.xor_comm y.toNat, ← Nat.xor_assoc]
    | succ k =>
      simp only [List.set_cons_succ, List.getElem_cons_succ, le]
      have h' : k < l.length := by simpa using h
      have e2 := join_xor 8 _ (le l) hb
      have e3 := join_xor 8 _ (le l ^^^ 2 ^ (8 * k) * y.toNat) hb
      rw [ih k h' y, show (256 : Nat) = 2 ^ 8 by rfl, e2, e3, mul_xor, ← Nat.xor_assoc, show 8 * (k + 1) = 8 + 8 * k by omega, Nat.pow_add, Nat.mul_assoc]

theorem burst_bit {B i q : Nat} (hq : q = B / 2 ^ i) (h1 : q % 2 = 1) : B % 2 ^ (i + 1) = B % 2 ^ i ^^^ 2 ^ i := by
  rw [Nat.mod_pow_succ, ← hq, h1]
  have := join_xor i (B % 2 ^ i) 1 (Nat.mod_lt _ (Nat.two_pow_pos i))
  rw [this, Nat.mul_one]
theorem burst_none {B i q : Nat} (hq : q = B / 2 ^ i) (h1 : ¬ q % 2 = 1) : B % 2 ^ (i + 1) = B % 2 ^ i := by
  rw [Nat.mod_pow_succ, ← hq, show q % 2 = 0 by omega]
  simp

theorem turn_bit {m : List UInt8} {N i B q L : Nat} (h : (N + i) / 8 < m.length) (hm : le m = L ^^^ 2 ^ N * (B % 2 ^ i)) (hq : q = B / 2 ^ i) (h1 : q % 2 = 1) :
    le (m.set ((N + i) / 8) (m[(N + i) / 8] ^^^ UInt8.ofNat (2 ^ ((N + i) % 8)))) = L ^^^ 2 ^ N * (B % 2 ^ (i + 1)) := by
  have h8 : (UInt8.ofNat (2 ^ ((N + i) % 8))).toNat = 2 ^ ((N + i) % 8) := by
    have : 2 ^ ((N + i) % 8) < 256 := Nat.lt_of_lt_of_le (Nat.pow_lt_pow_right (by decide) (Nat.mod_lt _ (by decide) : (N + i) % 8 < 8)) (by decide)
    simp; omega
  rw [le_set _ _ h, h8, ← Nat.pow_add, Nat.div_add_mod, hm, burst_bit hq h1, mul_xor, ← Nat.pow_add, Nat.xor_assoc]

theorem turn_value (x : UInt8) (r : Nat) (hr : r < 8) : bits .xor .u8 (x.toNat : Int) (2 ^ r % 256) = (((x ^^^ UInt8.ofNat (2 ^ r)).toNat : Nat) : Int) := by
  have h2 : 2 ^ r < 256 := Nat.lt_of_lt_of_le (Nat.pow_lt_pow_right (by decide) hr) (by decide)
  have e : ((2 : Int) ^ r % 256) = ((2 ^ r : Nat) : Int) := by
    have : ((2 ^ r % 256 : Nat) : Int) = ((2 ^ r : Nat) : Int) := by rw [Nat.mod_eq_of_lt h2]
    simpa using this
  rw [e, u8_xor_nat _ _ x.toNat_lt h2, UInt8.toNat_xor]
  have : (UInt8.ofNat (2 ^ r)).toNat = 2 ^ r := by simp; omega
  rw [this]

/-- Bytes that lie in a block. -/
def BB (W : World) (b : Nat) (l : List UInt8) : Prop := ∀ i (h : i < l.length), W.cell? ⟨b, i, none⟩ = some (.int .u8 (l[i].toNat : Int)) ∧ W.frozen? ⟨b, i, none⟩ = false

theorem bytes_of {P : Program} (w : World) (src dst e : TypeId) (l : List UInt8) (hs : P.underlying src = some .string) (hd : P.underlying dst = some (.slice e)) (he : P.underlying e = some (.int .u8)) :
    ∃ cap W0, (convert src dst (.string (bs l))).run P w = .ok (.slice (some ⟨w.heap.size, 0, none⟩) l.length cap) W0 ∧ BB W0 w.heap.size l ∧ Below w.heap.size w W0 ∧ w.heap.size < W0.heap.size := by
  have h := run_bytes_of_string (P := P) w src dst e (bs l) hs hd he
  rw [bs_size] at h
  refine ⟨_, _, h, ?_, ((Below.refl _ w).drew.alloc (Nat.le_refl _) _), by simp⟩
  intro i hi
  have hb := bytesRow_at (bs l) (grownCap w l.length 0 e) i (by simpa [bs] using hi)
  have hsz : i < (bytesRow (bs l) (grownCap w l.length 0 e)).size := by
    rcases Nat.lt_or_ge i (bytesRow (bs l) (grownCap w l.length 0 e)).size with h' | h'
    · exact h'
    · rw [Array.getElem?_eq_none h'] at hb; cases hb
  refine ⟨?_, ?_⟩
  · have := World.cell?_alloc_mark w.drew (bytesRow (bs l) (grownCap w l.length 0 e)) e ((bytesRow (bs l) (grownCap w l.length 0 e)).size, (bytesRow (bs l) (grownCap w l.length 0 e)).size + 1) i
    refine this.trans (hb.trans ?_)
    simp [bs]
  · have := World.frozen?_alloc_mark w.drew (bytesRow (bs l) (grownCap w l.length 0 e)) e (bytesRow (bs l) (grownCap w l.length 0 e)).size ((bytesRow (bs l) (grownCap w l.length 0 e)).size + 1) i
    refine this.trans ?_
    simp; omega

theorem BB.set {W : World} {b : Nat} {l : List UInt8} (h : BB W b l) {i : Nat} (_hi : i < l.length) (v : UInt8) : BB (W.setCell ⟨b, i, none⟩ (.int .u8 (v.toNat : Int))) b (l.set i v) := by
  intro j hj
  rw [List.length_set] at hj
  obtain ⟨hc, hf⟩ := h j hj
  refine ⟨?_, by rw [World.frozen?_setCell]; exact hf⟩
  by_cases e : i = j
  · subst e
    rw [List.getElem_set_self]
    exact World.cell?_setCell_same' W ⟨b, i, none⟩ _ (by rw [hc]; rfl)
  · rw [List.getElem_set_ne e]
    exact (World.cell?_setCell_other _ _ _ _ (fun h => e (by cases h; rfl))).trans hc

theorem opened_burst {l m : List UInt8} {N Bt : Nat} {a2 : Int} (hm : m.length = l.length + 4) (hN : N + 32 ≤ 8 * (l.length + 4)) (hz : ¬ a2 = 0) (hlt : Bt < 4294967296) (hb : a2 = Bt) (h : le m = le (sealed l) ^^^ 2 ^ N * (Bt % 2 ^ 32)) : opened m = ([], 7) := by
  unfold opened
  rw [if_neg (by omega), if_neg]
  intro he
  rw [Nat.mod_eq_of_lt hlt] at h
  have ht : (m.take (m.length - 4)).length = l.length := by rw [List.length_take]; omega
  refine burst (l := l) (m := m.take (m.length - 4)) (bits := Bt) (n := N) ht.symm (by omega) hlt hN ?_
  rw [he]
  exact h

set_option maxRecDepth 100000 in
set_option maxHeartbeats 2000000 in
theorem bursts_walk (a0 : ByteArray) (a1 a2 : Int) (w0 : a0.size ≤ 140737488351232) (w1 : (Lit.int .u16 a1).wf = true) (w2 : (Lit.int .u32 a2).wf = true) (w : World) :
    Calls Try.prog 5 #[.string a0, .int .u16 a1, .int .u32 a2] w fun e w' => e = .returned (.bool true) ∧ Below w.heap.size w w' := by
  obtain ⟨l, rfl⟩ : ∃ l, a0 = bs l := ⟨_, (bs_of a0).symm⟩
  obtain ⟨n0, n1⟩ := wf_u16 w1
  obtain ⟨c0, c1⟩ := wf_u32 w2
  clear w1 w2
  rw [bs_size] at w0
  have s1 := bs_size l
  by_cases hlong : 4096 < l.length
  · go_enter Try.func5, Try.ntmps5
    go_wp2_with fail
    refine (alive_any _).mono ?_
    rintro e w1 ⟨rfl, hB⟩
    go_wp2_with fail
    go_ret
    exact ⟨rfl, hB⟩
  · by_cases hz : a2 = 0
    · have hz0 : (a2 == 0) = true := by subst hz; rfl
      clear hz
      go_enter Try.func5, Try.ntmps5
      go_wp2_with fail
      refine (alive_any _).mono ?_
      rintro e w1 ⟨rfl, hB⟩
      go_wp2_with fail
      go_ret
      exact ⟨rfl, hB⟩
    · have hz0 : (a2 == 0) = false := by simp; omega
      have hsl := sealed_length l
      have hsz := bs_size (sealed l)
      rw [hsl] at hsz
      go_enter Try.func5, Try.ntmps5
      go_wp2_with fail
      refine (seal_any _ (by rw [bs_size]; unfold maxLen; omega) _).mono ?_
      rw [bs_data]
      rintro e x1 ⟨rfl, h1⟩
      obtain ⟨cap, W0, hrun, hbb, hbel, hlt0⟩ := bytes_of (P := Try.prog) x1 9 34 5 (sealed l) Try.underlying9 Try.underlying34 Try.underlying5
      rw [hsl] at hrun
      have y1 := h1.trans (hbel.mono h1.size)
      have hbase := h1.size
      obtain ⟨B, hBe⟩ : ∃ B, B = x1.heap.size := ⟨_, rfl⟩
      rw [← hBe] at hrun hbb hlt0 hbase
      have HBE := Lib.hid hBe
      clear hBe h1 hbel
      obtain ⟨N, hN, hN2⟩ : ∃ N : Nat, a1 % (8 * ((l.length : Int) + 4) - 31) = N ∧ N + 32 ≤ 8 * (l.length + 4) := by
        have := Int.emod_nonneg a1 (b := 8 * ((l.length : Int) + 4) - 31) (by omega)
        have := Int.emod_lt_of_pos a1 (b := 8 * ((l.length : Int) + 4) - 31) (by omega)
        exact ⟨(a1 % (8 * ((l.length : Int) + 4) - 31)).toNat, by omega, by omega⟩
      have HSL := Lib.hid hsl
      clear hsl
      go_wp2_with fail
      rw [hN]
      have HN := Lib.hid hN
      clear hN
      obtain ⟨Bt, hBt⟩ : ∃ Bt : Nat, a2 = Bt := ⟨a2.toNat, by omega⟩
      have HBT := Lib.hid hBt
      clear hBt
      have hsh : ∀ i : Nat, i < 32 → a2 / 2 ^ i = ((Bt / 2 ^ i : Nat) : Int) := by
        intro i _
        rw [HBT.out]; simp
      go_loopw [9] (fun v wr => ∃ i : Nat, ∃ m : List UInt8, i ≤ 32 ∧ v = .int .i64 i ∧ m.length = l.length + 4 ∧ Hid (le m = le (sealed l) ^^^ 2 ^ N * (Bt % 2 ^ i)) ∧ BB wr B m ∧ Below w.heap.size w wr) (fun v _ => 32 - (intOf v).toNat)
      case atStart => exact ⟨0, sealed l, by omega, rfl, HSL.out, by show le (sealed l) = _; simp [Nat.mod_one], hbb, y1⟩
      case round =>
        obtain ⟨i, m, hi, rfl, hml, HM, hmm, hB⟩ := hrel
        by_cases hlt : i < 32
        · obtain ⟨q, hq, hqb⟩ : ∃ q : Nat, a2 / 2 ^ i = q ∧ q = Bt / 2 ^ i := ⟨_, hsh i hlt, rfl⟩
          have HQ := Lib.hid hqb
          have HSH := Lib.hid hsh
          clear hqb hsh
          have hkm : (N + i) / 8 < m.length := by rw [hml]; omega
          obtain ⟨hcm, hfm⟩ := hmm ((N + i) / 8) hkm
          by_cases hpar : q % 2 = 1
          · have hp : ((q : Int) % 2 == 1) = true := by simp; omega
            go_wp2_with fail
            go_roundw
            case rel =>
              refine ⟨i + 1, m.set ((N + i) / 8) (m[(N + i) / 8] ^^^ UInt8.ofNat (2 ^ ((N + i) % 8))), by omega, by go_num, by rw [List.length_set]; exact hml, turn_bit hkm HM.out HQ.out hpar, ?_, hB.setCell (p := ⟨B, (N + i) / 8, none⟩) hbase _⟩
              rw [turn_value _ _ (Nat.mod_lt _ (by decide))]
              exact hmm.set hkm _
            case measure => simp [intOf]; omega
          · have hp : ((q : Int) % 2 == 1) = false := by simp; omega
            go_wp2_with fail
            go_roundw
            case rel => exact ⟨i + 1, m, by omega, by go_num, hml, by show le m = _; rw [burst_none HQ.out hpar]; exact HM.out, hmm, hB⟩
            case measure => simp [intOf]; omega
        · obtain rfl : i = 32 := by omega
          have hback := run_convert_bytes_back (P := Try.prog) wr 34 9 5 ⟨B, 0, none⟩ cap m Try.underlying34 Try.underlying5 Try.underlying9 (fun j hj => by
            rw [Addr.add_lit, Nat.zero_add]; exact (hmm j hj).1)
          rw [hml] at hback
          have hop : opened m = ([], 7) := opened_burst hml hN2 hz (by have := HBT.out; omega) HBT.out HM.out
          have HOP := Lib.hid hop
          clear hop hmm
          have hback' : (convert 34 9 (.slice (some ⟨B, 0, none⟩) (l.length + 4) cap)).run Try.prog wr = .ok (.string (bs m)) wr := hback
          clear hback
          go_wp2_with fail
          refine (open_any _ (by rw [hml]; unfold maxLen; omega) _).mono ?_
          rw [HOP.out]
          rintro e z1 ⟨rfl, h1⟩
          go_wp2_with fail
          refine (alive_any _).mono ?_
          rintro e z2 ⟨rfl, h2⟩
          go_wp2_with fail
          go_ret
          have y2 := hB.trans (h1.mono hB.size)
          exact ⟨rfl, y2.trans (h2.mono y2.size)⟩
end Go.Proofs.Ytgipenibjmijoaa
