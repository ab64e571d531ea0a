/- lunettelaw03.DevFuse: the walk. -/
import Derived.Test.YtjjphcnoegaimaaAlive03
import Derived.Test.YtjjphcnoegaimaaStrs
namespace Go.Proofs.Ytjjphcnoegaimaa
open Go.RowKit Go.Shelf Go.Maps
set_option maxRecDepth 20000

/-- A device whose fuse was n, behind k tries to write. -/
structure FuI (n k : Nat) (s : DS) : Prop where
  armed : s.armed = true
  dead : s.dead = decide (n ≤ k)
  left : s.left = (n : Int) - (min k n : Nat)
  writes : s.writes = (min k n : Nat)
  hard : s.hard.length = 8
  rows : ∀ j, (s.rows j).length ≤ k
theorem FuI.start (n : Nat) : FuI n 0 (fuseS (newS 8) n) := by
  refine ⟨rfl, ?_, by simp [fuseS], by simp [fuseS, newS], by simp [fuseS, newS], fun j => Nat.le_refl _⟩
  simp [fuseS, newS]
theorem FuI.write {n k : Nat} {s : DS} (h : FuI n k s) (hk : k < n) (i : Int) (b : ByteArray) : FuI n (k + 1) (wrS s i b) := by
  have ha := h.armed
  have hl := h.left
  have hw := h.writes
  have m1 : min k n = k := by omega
  have m2 : min (k + 1) n = k + 1 := by omega
  rw [m1] at hl hw
  refine ⟨ha, ?_, ?_, ?_, h.hard, fun j => Nat.le_trans (wrS_rows _ _ _ _) (by have := h.rows j; omega)⟩
  · show (if s.armed = true then decide (s.left - 1 = 0) else s.dead) = _
    rw [if_pos ha, hl]
    apply decide_eq_decide.2
    omega
  · show (if s.armed = true then s.left - 1 else s.left) = _
    rw [if_pos ha, hl, m2]
    push_cast
    omega
  · show s.writes + 1 = _
    rw [hw, m2]
    push_cast
    rfl
theorem FuI.idle {n k : Nat} {s : DS} (h : FuI n k s) (hk : n ≤ k) : FuI n (k + 1) s := by
  refine ⟨h.armed, ?_, ?_, ?_, h.hard, fun j => by have := h.rows j; omega⟩
  · rw [h.dead]
    apply decide_eq_decide.2
    omega
  · rw [h.left, show min k n = min (k + 1) n by omega]
  · rw [h.writes, show min k n = min (k + 1) n by omega]

theorem flushL_idle {n : Nat} (l : List (Fin n)) : ∀ s : DS, (flushL s l).armed = s.armed ∧ (flushL s l).dead = s.dead ∧ (flushL s l).left = s.left ∧ (flushL s l).writes = s.writes := by
  induction l with
  | nil => intro s; exact ⟨rfl, rfl, rfl, rfl⟩
  | cons i l ih =>
    intro s
    rw [flushL, List.foldl_cons, ← flushL]
    obtain ⟨a, b, c, d⟩ := ih (keepS s i.1 (s.rows i.1).length)
    rw [a, b, c, d]
    unfold keepS
    split <;> exact ⟨rfl, rfl, rfl, rfl⟩

theorem crash1_writes (keep : ByteArray) (k : Nat) (s : DS) (i : Nat) : (crash1 keep k s i).writes = s.writes := by
  unfold crash1 keepS
  dsimp only
  split <;> try rfl
  split <;> rfl
theorem crashS_writes (keep : ByteArray) (s : DS) : (crashS keep s).writes = s.writes := by
  have H : ∀ {n : Nat} (l : List (Fin n)) (k : Nat) (s : DS), (crashL keep k s l).writes = s.writes := by
    intro n l
    induction l with
    | nil => intro k s; rfl
    | cons i l ih => intro k s; rw [crashL, ih, crash1_writes]
  exact H (looseF s) 0 s
theorem o_writes' {w0 W : World} {X : Nat → Prop} {p : Nat} {s : DS} (h : DvO w0 X p s W) (b : Int) (hb : s.writes = b) : Calls Try.prog 25 #[.pointer (some ⟨p, 0, none⟩)] W fun e W' => e = .returned (.int .u64 b) ∧ W = W' := by
  subst hb
  exact o_writes h
theorem o_read_down {w0 W : World} {X : Nat → Prop} {p : Nat} {s : DS} (h : DvO w0 X p s W) (hd : s.dead = true) (i : Int) : Calls Try.prog 20 #[.pointer (some ⟨p, 0, none⟩), .int .i64 i] W fun e W' => e = .returned (.tuple #[.string ByteArray.empty, .int .i64 30]) ∧ DvO w0 X p s W' := by
  have h' := h
  obtain ⟨hb, hc, m, L, h1, h2⟩ := h.dev
  refine (dev_read_down h1 hd i).mono ?_
  rintro e W' ⟨rfl, hB⟩
  exact ⟨rfl, h'.of hB⟩
theorem o_flush_down {w0 W : World} {X : Nat → Prop} {p : Nat} {s : DS} (h : DvO w0 X p s W) (hd : s.dead = true) : Calls Try.prog 19 #[.pointer (some ⟨p, 0, none⟩)] W fun e W' => e = .returned (.int .i64 30) ∧ DvO w0 X p s W' := by
  refine (flush_down h.dev hd).mono ?_
  rintro e W' ⟨rfl, hB⟩
  exact ⟨rfl, h.of hB⟩

set_option maxHeartbeats 4000000 in
theorem fuse_walk {w : World} (n : Int) (v : Value) (ls : List ByteArray) (hn : (Lit.int .u8 n).wf = true) (hsl : SlS w v ls) : Calls Try.prog 4 #[.int .u8 n, v] w fun e w' => e = .returned (.bool true) ∧ Below w.heap.size w w' := by
  obtain ⟨⟨ao, cap, rfl, hval⟩, hsm⟩ := hsl
  have hn2 : 0 ≤ n ∧ n ≤ 255 := by simpa [Lit.wf, IntKind.min, IntKind.max, IntKind.signed, IntKind.bits] using hn
  obtain ⟨n, rfl⟩ := Int.eq_ofNat_of_zero_le hn2.1
  have hn3 : n ≤ 255 := by omega
  clear hn hn2
  by_cases hl : 100 < ls.length
  · have d0 : decide ((ls.length : Int) > 100) = true := decide_eq_true (by omega)
    go_enter Try.func4, Try.ntmps4
    go_wp2_with fail
    refine (alive03_any _).mono ?_
    rintro e w1 ⟨rfl, hB⟩
    go_wp2_with fail
    go_ret
    exact ⟨rfl, hB⟩
  · have d0 : decide ((ls.length : Int) > 100) = false := decide_eq_false (by omega)
    have hw0 : IntKind.i64.wrap (n : Int) = (n : Int) := i64_small (by omega) (by omega)
    have hdd : (!decide (n = 0) == ((n : Int) == 0)) = false := by
      by_cases e : n = 0
      · subst e; rfl
      · have h2 : ((n : Int) == 0) = false := by simpa using e
        rw [h2]
        simp [e]
    go_enter Try.func4, Try.ntmps4
    go_wp2_with fail
    refine (o_new 8 (by decide) (by decide) w w (Below.refl _ _)).mono ?_
    rintro e w1 ⟨rfl, h0, hB0⟩
    replace h0 := h0.less (Y := fun _ => False) (fun _ => False.elim)
    go_wp2_with fail
    refine (o_fuse h0 n (by omega)).mono ?_
    rintro e w2 ⟨rfl, h1, -⟩
    have hF := FuI.start n
    generalize fuseS (newS 8) n = s1 at *
    go_wp2_with fail
    refine (o_down' h1 _ hF.dead).mono ?_
    rintro e w3 ⟨rfl, rfl⟩
    go_wp2_with fail
    have HV := Lib.hid hval
    clear hdd h0 hB0 hval
    go_loopw [7, 8] (fun v7 _ wr => ∃ k : Nat, ∃ s : DS, k ≤ ls.length ∧ v7 = .int .i64 k ∧ FuI n k s ∧ DvO w (fun _ => False) (w.heap.size + 1) s wr) (fun v7 _ _ => ls.length - (intOf v7).toNat)
    case atStart => exact ⟨0, s1, Nat.zero_le _, rfl, hF, h1⟩
    case round =>
      obtain ⟨k, s, hk, rfl, hFk, hI⟩ := hrel
      by_cases hlt : k < ls.length
      · obtain ⟨b, off, rfl, hbl, hcells⟩ := HV.out (by omega)
        have hcell : wr.cell? ⟨b, off + k, none⟩ = some (.string (ls.getD k ByteArray.empty)) := (hI.below.cell (p := ⟨b, off + k, none⟩) hbl).trans (hcells k hlt)
        generalize ls.getD k ByteArray.empty = str at *
        have hk100 : k < 100 := by omega
        have hsec := sector_any str wr
        have HS := Lib.hid hsec
        clear hsec hcells
        have e8 : ((k % 8 : Nat) : Int) = (k : Int) % 8 := by push_cast; rfl
        have E8 := Lib.hid e8
        clear e8
        by_cases hkn : k < n
        · have hd : s.dead = false := by rw [hFk.dead]; exact decide_eq_false (by omega)
          have dk : decide ((k : Int) < (n : Int)) = true := decide_eq_true (by omega)
          have hww := hFk.writes
          have hll := hFk.left
          have hnext := hFk.write hkn
          have HN := Lib.hid hnext
          have hcw : ∀ W : World, DvO w (fun _ => False) (w.heap.size + 1) s W → Calls Try.prog 16 #[.pointer (some ⟨w.heap.size + 1, 0, none⟩), .int .i64 ((k : Int) % 8), .string (sec str)] W fun e W' => e = .returned (.int .i64 0) ∧ DvO w (fun _ => False) (w.heap.size + 1) (wrS s ((k % 8 : Nat) : Int) (sec str)) W' := by
            intro W hW
            rw [← E8.out]
            refine (o_write hW hd (k % 8) (by rw [hFk.hard]; omega) (sec str) (sec_size _) (by have := hFk.rows ((k % 8 : Nat) : Int); omega) (u64_small (by omega) (by omega)) (i64_small (by omega) (by omega))).mono ?_
            rintro e W' ⟨rfl, h, -⟩
            exact ⟨rfl, h⟩
          have HCW := Lib.hid hcw
          clear hnext hcw hww hll
          by_cases hk1 : n ≤ k + 1
          · have d1 : decide ((k : Int) + 1 ≥ (n : Int)) = true := decide_eq_true (by omega)
            go_wp2_with fail
            refine HS.out.mono ?_
            rintro e w3 ⟨rfl, hB⟩
            have hI3 := hI.of hB
            clear hB
            go_wp2_with fail
            refine (HCW.out w3 hI3).mono ?_
            rintro e w4 ⟨rfl, hI4⟩
            go_wp2_with fail
            refine (o_down' hI4 true (by rw [(HN.out _ _).dead]; exact decide_eq_true (by omega))).mono ?_
            rintro e w5 ⟨rfl, rfl⟩
            go_wp2_with fail
            go_roundw
            case rel => exact ⟨k + 1, _, by omega, by go_num, HN.out _ _, hI4⟩
            case measure => simp [intOf]; omega
          · have d1 : decide ((k : Int) + 1 ≥ (n : Int)) = false := decide_eq_false (by omega)
            go_wp2_with fail
            refine HS.out.mono ?_
            rintro e w3 ⟨rfl, hB⟩
            have hI3 := hI.of hB
            clear hB
            go_wp2_with fail
            refine (HCW.out w3 hI3).mono ?_
            rintro e w4 ⟨rfl, hI4⟩
            go_wp2_with fail
            refine (o_down' hI4 false (by rw [(HN.out _ _).dead]; exact decide_eq_false (by omega))).mono ?_
            rintro e w5 ⟨rfl, rfl⟩
            go_wp2_with fail
            go_roundw
            case rel => exact ⟨k + 1, _, by omega, by go_num, HN.out _ _, hI4⟩
            case measure => simp [intOf]; omega
        · have hd : s.dead = true := by rw [hFk.dead]; exact decide_eq_true (by omega)
          have dk : decide ((k : Int) < (n : Int)) = false := decide_eq_false (by omega)
          have d1 : decide ((k : Int) + 1 ≥ (n : Int)) = true := decide_eq_true (by omega)
          have hnext := hFk.idle (by omega)
          have HN := Lib.hid hnext
          clear hnext
          go_wp2_with fail
          refine HS.out.mono ?_
          rintro e w3 ⟨rfl, hB⟩
          have hI3 := hI.of hB
          clear hB
          go_wp2_with fail
          refine (write_down hI3.dev hd _ _).mono ?_
          rintro e w4 ⟨rfl, rfl⟩
          go_wp2_with fail
          refine (o_down' hI3 true hd).mono ?_
          rintro e w5 ⟨rfl, rfl⟩
          go_wp2_with fail
          go_roundw
          case rel => exact ⟨k + 1, _, by omega, by go_num, HN.out, hI3⟩
          case measure => simp [intOf]; omega
      · obtain rfl : k = ls.length := by omega
        by_cases hdn : n ≤ ls.length
        · have hd : s.dead = true := by rw [hFk.dead]; exact decide_eq_true hdn
          have dk : decide ((ls.length : Int) ≥ (n : Int)) = true := decide_eq_true (by omega)
          have hmin : s.writes = min (ls.length : Int) (n : Int) := by rw [hFk.writes]; omega
          have hwm : IntKind.u64.wrap (min (ls.length : Int) (n : Int)) = min (ls.length : Int) (n : Int) := u64_small (by omega) (by omega)
          have HM := Lib.hid hmin
          clear hmin
          go_wp2_with fail
          refine (o_read_down hI hd 0).mono ?_
          rintro e w3 ⟨rfl, hI1⟩
          go_wp2_with fail
          refine (o_flush_down hI1 hd).mono ?_
          rintro e w4 ⟨rfl, hI2⟩
          go_wp2_with fail
          refine (back_down hI2.dev hd 0 0).mono ?_
          rintro e w5 ⟨rfl, rfl⟩
          go_wp2_with fail
          refine (o_writes' hI2 _ HM.out).mono ?_
          rintro e w5 ⟨rfl, rfl⟩
          obtain ⟨s5, hs5⟩ : ∃ s5, s = s5 := ⟨_, rfl⟩
          have HI3 := Lib.hid hI2
          have hrows : ∀ j, (s.rows j).length ≤ 100 := fun j => Nat.le_trans (hFk.rows j) (by omega)
          have hhard := hFk.hard
          have hwr : s.writes = (min ls.length n : Nat) := hFk.writes
          rw [hs5] at HI3 hrows hhard hwr
          clear hd dk
          go_wp2_with fail
          refine (o_crash HI3.out ⟨#[]⟩ (fun j => Nat.le_trans (hrows j) (by omega))).mono ?_
          rintro e w6 ⟨rfl, hA, -⟩
          go_wp2_with fail
          refine (o_down' hA false rfl).mono ?_
          rintro e w7 ⟨rfl, rfl⟩
          go_wp2_with fail
          refine (sector_any ⟨#[]⟩ w6).mono ?_
          rw [sec_nil]
          rintro e w7 ⟨rfl, hB⟩
          have hA2 := hA.of hB
          go_wp2_with fail
          refine (o_write hA2 rfl 0 (by rw [crashS_hard, hhard]; decide) zsec (by rw [← sec_nil]; exact sec_size _) (by have := crashS_rows ⟨#[]⟩ s5 ((0 : Nat) : Int); have := hrows ((0 : Nat) : Int); omega) (by rw [crashS_writes, hwr]; exact u64_small (by omega) (by omega)) (i64_small (by show (-1000000 : Int) ≤ 0 - 1; decide) (by show (0 - 1 : Int) < 1000000; decide))).mono ?_
          rintro e w8 ⟨rfl, hA3, -⟩
          go_wp2_with fail
          refine (alive03_any w8).mono ?_
          rintro e w9 ⟨rfl, hB9⟩
          have hA4 := hA3.of hB9
          go_wp2_with fail
          go_ret
          exact ⟨rfl, hA4.below⟩
        · have hd : s.dead = false := by rw [hFk.dead]; exact decide_eq_false hdn
          have dk : decide ((ls.length : Int) ≥ (n : Int)) = false := decide_eq_false (by omega)
          have hmin : s.writes = min (ls.length : Int) (n : Int) := by rw [hFk.writes]; omega
          have hwm : IntKind.u64.wrap (min (ls.length : Int) (n : Int)) = min (ls.length : Int) (n : Int) := u64_small (by omega) (by omega)
          have HM := Lib.hid hmin
          clear hmin
          have hr0 : ∀ j, (s.rows j).length ≤ 100 := fun j => Nat.le_trans (hFk.rows j) (by omega)
          have HR0 := Lib.hid hr0
          clear hr0
          go_wp2_with fail
          refine (o_read hI hd 0 (by rw [hFk.hard]; decide)).mono ?_
          rintro e w3 ⟨rfl, hI1, -⟩
          go_wp2_with fail
          refine (o_flush hI1 hd (fun j => Nat.le_trans (HR0.out j) (by decide))).mono ?_
          rintro e w4 ⟨rfl, hI2, -⟩
          have hfd : (flushL s (looseF s)).dead = false := by rw [(flushL_idle (looseF s) s).2.1]; exact hd
          have hfh : (flushL s (looseF s)).hard.length = 8 := by rw [flushL_hard]; exact hFk.hard
          have hfr : ∀ j, ((flushL s (looseF s)).rows j).length ≤ 100 := fun j => Nat.le_trans (flushL_rows (looseF s) s j) (HR0.out j)
          have HFR := Lib.hid hfr
          clear hfr
          go_wp2_with fail
          refine (o_back hI2 hfd 0 0 (by rw [hfh]; decide) (Nat.zero_le _) (Nat.le_trans (HFR.out 0) (by decide))).mono ?_
          rintro e w5 ⟨rfl, hI3, -⟩
          replace hI3 : DvO w (fun _ => False) (w.heap.size + 1) (flushL s (looseF s)) w5 := hI3
          go_wp2_with fail
          refine (o_writes' hI3 (min (ls.length : Int) (n : Int)) (by rw [(flushL_idle (looseF s) s).2.2.2]; exact HM.out)).mono ?_
          rintro e w6' ⟨rfl, rfl⟩
          obtain ⟨s5, hs5⟩ : ∃ s5, flushL s (looseF s) = s5 := ⟨_, rfl⟩
          have HI3 := Lib.hid hI3
          have hrows := HFR.out
          have hhard := hfh
          have hwr : (flushL s (looseF s)).writes = (min ls.length n : Nat) := by rw [(flushL_idle (looseF s) s).2.2.2]; exact hFk.writes
          rw [hs5] at HI3 hrows hhard hwr
          clear hd dk
          go_wp2_with fail
          refine (o_crash HI3.out ⟨#[]⟩ (fun j => Nat.le_trans (hrows j) (by omega))).mono ?_
          rintro e w6 ⟨rfl, hA, -⟩
          go_wp2_with fail
          refine (o_down' hA false rfl).mono ?_
          rintro e w7 ⟨rfl, rfl⟩
          go_wp2_with fail
          refine (sector_any ⟨#[]⟩ w6).mono ?_
          rw [sec_nil]
          rintro e w7 ⟨rfl, hB⟩
          have hA2 := hA.of hB
          go_wp2_with fail
          refine (o_write hA2 rfl 0 (by rw [crashS_hard, hhard]; decide) zsec (by rw [← sec_nil]; exact sec_size _) (by have := crashS_rows ⟨#[]⟩ s5 ((0 : Nat) : Int); have := hrows ((0 : Nat) : Int); omega) (by rw [crashS_writes, hwr]; exact u64_small (by omega) (by omega)) (i64_small (by show (-1000000 : Int) ≤ 0 - 1; decide) (by show (0 - 1 : Int) < 1000000; decide))).mono ?_
          rintro e w8 ⟨rfl, hA3, -⟩
          go_wp2_with fail
          refine (alive03_any w8).mono ?_
          rintro e w9 ⟨rfl, hB9⟩
          have hA4 := hA3.of hB9
          go_wp2_with fail
          go_ret
          exact ⟨rfl, hA4.below⟩
end Go.Proofs.Ytjjphcnoegaimaa
