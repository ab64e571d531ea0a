/- lunettelaw03.DevLast: the walk. -/
import Derived.Test.YtjjphcnoegaimaaLastPlain
import Derived.Test.YtjjphcnoegaimaaDevFuse
import Derived.Test.YtjjphcnoegaimaaText03
import Derived.Test.YtjjphcnoegaimaaLin
namespace Go.Proofs.Ytjjphcnoegaimaa
open Go.RowKit Go.Shelf Go.Maps
set_option maxRecDepth 20000

/-- A device without a fuse, behind k steps. -/
structure LaI (k : Nat) (s : DS) : Prop where
  armed : s.armed = false
  dead : s.dead = false
  left : s.left = 0
  w0 : 0 ≤ s.writes
  w1 : s.writes ≤ k
  hard : s.hard.length = 16
  rows : ∀ j, (s.rows j).length ≤ k
theorem LaI.start : LaI 0 (newS 16) := ⟨rfl, rfl, rfl, Int.le_refl _, Int.le_refl _, rfl, fun _ => Nat.le_refl _⟩
theorem LaI.more {k : Nat} {s : DS} (h : LaI k s) : LaI (k + 1) s := ⟨h.armed, h.dead, h.left, h.w0, by have := h.w1; push_cast; omega, h.hard, fun j => Nat.le_succ_of_le (h.rows j)⟩
theorem LaI.write {k : Nat} {s : DS} (h : LaI k s) (i : Int) (b : ByteArray) : LaI (k + 1) (wrS s i b) := by
  have h0 := h.w0
  have h1 := h.w1
  refine ⟨h.armed, ?_, ?_, ?_, ?_, h.hard, fun j => Nat.le_trans (wrS_rows _ _ _ _) (by have := h.rows j; omega)⟩
  · show (if s.armed = true then _ else s.dead) = false
    rw [h.armed]
    exact h.dead
  · show (if s.armed = true then _ else s.left) = 0
    rw [h.armed]
    exact h.left
  · show 0 ≤ s.writes + 1
    omega
  · show s.writes + 1 ≤ ((k + 1 : Nat) : Int)
    push_cast
    omega
theorem keepS_idle (s : DS) (i k : Nat) : (keepS s i k).armed = s.armed ∧ (keepS s i k).dead = s.dead ∧ (keepS s i k).left = s.left ∧ (keepS s i k).writes = s.writes := by
  unfold keepS
  split <;> exact ⟨rfl, rfl, rfl, rfl⟩
theorem LaI.keep {k : Nat} {s : DS} (h : LaI k s) (i j : Nat) : LaI k (keepS s i j) := by
  obtain ⟨a, b, c, d⟩ := keepS_idle s i j
  exact ⟨a.trans h.armed, b.trans h.dead, c.trans h.left, d ▸ h.w0, d ▸ h.w1, (keepS_hard s i j).trans h.hard, fun x => Nat.le_trans (keepS_rows s i j x) (h.rows x)⟩
theorem LaI.flush {k : Nat} {s : DS} (h : LaI k s) {n : Nat} (l : List (Fin n)) : LaI k (flushL s l) := by
  obtain ⟨a, b, c, d⟩ := flushL_idle l s
  exact ⟨a.trans h.armed, b.trans h.dead, c.trans h.left, d ▸ h.w0, d ▸ h.w1, (flushL_hard l s).trans h.hard, fun x => Nat.le_trans (flushL_rows l s x) (h.rows x)⟩

/-- What stands between two steps. -/
structure LaW (w : World) (i : Nat) (k : Nat) (last : ByteArray) (s : DS) (W : World) : Prop where
  dev : DvO w (fun _ => False) (w.heap.size + 1) s W
  ok : LaI k s
  last : newest s i = last

section
variable {w W : World} {i k : Nat} {last : ByteArray} {s : DS}
theorem LaW.below (h : LaW w i k last s W) : Below w.heap.size w W := h.dev.below
theorem LaW.of {W' : World} (h : LaW w i k last s W) (hB : Below W.heap.size W W') : LaW w i k last s W' := ⟨h.dev.of hB, h.ok, h.last⟩
theorem LaW.drew (h : LaW w i k last s W) : LaW w i k last s W.drew := h.of (Below.refl _ _).drew
/-- A write that is done. -/
theorem la_write_yes (h : LaW w i k last s W) (hk : k ≤ 150) (I : Int) (b : ByteArray) (hd : dhas s I = true) (hb : b.size = 64) : Calls Try.prog 16 #[.pointer (some ⟨w.heap.size + 1, 0, none⟩), .int .i64 I, .string b] W fun e W' =>
    e = .returned (.int .i64 0) ∧ LaW w i (k + 1) (if I = (i : Int) then b else last) (wrS s I b) W' := by
  have hh := h.ok.hard
  have hr : 0 ≤ I ∧ I < s.hard.length := by simpa [dhas] using hd
  obtain ⟨I, rfl⟩ := Int.eq_ofNat_of_zero_le hr.1
  have h0 := h.ok.w0
  have h1 := h.ok.w1
  have hrr := h.ok.rows I
  refine (o_write h.dev h.ok.dead I (by omega) b hb (by omega) (u64_small (by omega) (by omega)) (i64_small (by rw [h.ok.left]; decide) (by rw [h.ok.left]; decide))).mono ?_
  rintro e W' ⟨rfl, h2, -⟩
  refine ⟨rfl, h2, h.ok.write _ _, ?_⟩
  rw [newest_wrS, h.last]
  by_cases e : (i : Int) = (I : Int)
  · rw [if_pos e, if_pos e.symm]
  · rw [if_neg e, if_neg (fun x => e x.symm)]
theorem la_write_no (h : LaW w i k last s W) (I : Int) (b : ByteArray) (hc : ¬ (dhas s I = true ∧ b.size = 64)) : Calls Try.prog 16 #[.pointer (some ⟨w.heap.size + 1, 0, none⟩), .int .i64 I, .string b] W fun e W' =>
    e = .returned (.int .i64 2) ∧ LaW w i k last s W' := by
  refine (write_no h.dev.dev h.ok.dead I b ?_).mono ?_
  · by_cases hd : dhas s I = true
    · exact .inr (fun hb => hc ⟨hd, hb⟩)
    · exact .inl (by simpa using hd)
  · rintro e W' ⟨rfl, rfl⟩
    exact ⟨rfl, h⟩
theorem la_back (h : LaW w i k last s W) (hk : k ≤ 150) (I K : Int) : Calls Try.prog 18 #[.pointer (some ⟨w.heap.size + 1, 0, none⟩), .int .i64 I, .int .i64 K] W fun e W' => ∃ s' r, e = .returned (.int .i64 r) ∧ LaW w i k last s' W' := by
  by_cases hc : dhas s I = true ∧ 0 ≤ K ∧ K ≤ (s.rows I).length
  · obtain ⟨hd, h0, h1⟩ := hc
    have hr : 0 ≤ I ∧ I < s.hard.length := by simpa [dhas] using hd
    obtain ⟨I, rfl⟩ := Int.eq_ofNat_of_zero_le hr.1
    obtain ⟨K, rfl⟩ := Int.eq_ofNat_of_zero_le h0
    have hrr := h.ok.rows I
    refine (o_back h.dev h.ok.dead I K (by omega) (by omega) (by omega)).mono ?_
    rintro e W' ⟨rfl, h2, -⟩
    exact ⟨_, _, rfl, h2, h.ok.keep _ _, by rw [newest_keepS s I K i (by omega) (by omega)]; exact h.last⟩
  · refine (back_no h.dev.dev h.ok.dead I K ?_).mono ?_
    · by_cases hd : dhas s I = true
      · by_cases h0 : K < 0
        · exact .inr (.inl h0)
        · exact .inr (.inr (by
            by_cases h1 : K ≤ (s.rows I).length
            · exact absurd ⟨hd, by omega, h1⟩ hc
            · omega))
      · exact .inl (by simpa using hd)
    · rintro e W' ⟨rfl, rfl⟩
      exact ⟨s, _, rfl, h⟩
theorem la_flush (h : LaW w i k last s W) (hk : k ≤ 150) : Calls Try.prog 19 #[.pointer (some ⟨w.heap.size + 1, 0, none⟩)] W fun e W' => ∃ s', e = .returned (.int .i64 0) ∧ LaW w i k last s' W' ∧ looseOf s' = [] := by
  refine (o_flush h.dev h.ok.dead (fun j => Nat.le_trans (h.ok.rows j) (by omega))).mono ?_
  rintro e W' ⟨rfl, h2, -⟩
  exact ⟨_, rfl, ⟨h2, h.ok.flush _, by rw [newest_flushL _ i s rfl]; exact h.last⟩, flush_loose s⟩
theorem la_read (h : LaW w i k last s W) (hi : i < 16) : Calls Try.prog 20 #[.pointer (some ⟨w.heap.size + 1, 0, none⟩), .int .i64 i] W fun e W' => e = .returned (.tuple #[.string last, .int .i64 0]) ∧ LaW w i k last s W' := by
  refine (o_read h.dev h.ok.dead i (by rw [h.ok.hard]; exact hi)).mono ?_
  rintro e W' ⟨rfl, h2, -⟩
  exact ⟨by rw [h.last], h2, h.ok, h.last⟩
end

set_option maxRecDepth 100000 in
set_option maxHeartbeats 20000000 in
theorem last_walk {w : World} (v : Value) (ls : List St3) (n : Int) (hsl : Sl3 w v ls) (hn : (Lit.int .u8 n).wf = true) : Calls Try.prog 3 #[v, .int .u8 n] w fun e w' => e = .returned (.bool true) ∧ Below w.heap.size w w' := by
  have hlong := long_any hsl
  obtain ⟨⟨ao, cap, rfl, hval⟩, hwf⟩ := hsl
  have hn2 : 0 ≤ n ∧ n ≤ 255 := by simpa [Lit.wf, IntKind.min, IntKind.max, IntKind.signed, IntKind.bits] using hn
  obtain ⟨n, rfl⟩ := Int.eq_ofNat_of_zero_le hn2.1
  have hn3 : n ≤ 255 := by omega
  clear hn hn2
  have hw0 : IntKind.i64.wrap (n : Int) = (n : Int) := i64_small (by omega) (by omega)
  have HL := Lib.hid hlong
  have HV := Lib.hid hval
  have HWF := Lib.hid hwf
  clear hlong hval hwf
  obtain ⟨i, hi⟩ : ∃ i, n % 16 = i := ⟨_, rfl⟩
  have hi16 : i < 16 := by omega
  have ei : (n : Int) % 16 = (i : Int) := by omega
  have hz : ∀ W : World, Calls Try.prog 15 #[.string ⟨#[]⟩] W fun e w' => e = .returned (.string zsec) ∧ Below W.heap.size W w' := by
    intro W
    have := sector_any ⟨#[]⟩ W
    rw [sec_nil] at this
    exact this
  have HZ := Lib.hid hz
  clear hz hi
  go_enter Try.func3, Try.ntmps3
  go_wp2_with fail
  refine HL.out.mono ?_
  rintro e w1 ⟨lb, rfl, hlb, rfl⟩
  cases lb
  · have hl150 := hlb rfl
    go_wp2_with fail
    refine (o_new 16 (by decide) (by decide) w w (Below.refl _ _)).mono ?_
    rintro e w1 ⟨rfl, h0, -⟩
    replace h0 := h0.less (Y := fun _ => False) (fun _ => False.elim)
    go_wp2_with fail
    refine (HZ.out w1).mono ?_
    rintro e w2 ⟨rfl, hB⟩
    replace h0 := h0.of hB
    have hA : LaW w i 0 zsec (newS 16) w2 := ⟨h0, LaI.start, by
      rw [newest_none rfl]
      show (List.replicate 16 zsec).getD i ByteArray.empty = zsec
      rw [List.getD_eq_getElem?_getD, List.getElem?_replicate, if_pos hi16]
      rfl⟩
    clear hB h0
    go_wp2_with fail
    go_loopw [8, 9, 10, 11] (fun v8 v9 _ _ wr => ∃ k : Nat, ∃ last : ByteArray, ∃ s : DS, k ≤ ls.length ∧ v8 = .string last ∧ v9 = .int .i64 k ∧ LaW w i k last s wr) (fun _ v9 _ _ _ => ls.length - (intOf v9).toNat)
    case atStart => exact ⟨0, zsec, _, Nat.zero_le _, rfl, rfl, hA⟩
    case round =>
      obtain ⟨k, last, s, hk, rfl, rfl, hI⟩ := hrel
      by_cases hlt : k < ls.length
      · obtain ⟨b, off, rfl, hbl, hc⟩ := HV.out (by omega)
        have hcx := hc k hlt
        have HC := Lib.hid hc
        clear hc
        generalize ls.getD k st0 = x at *
        have hcells : ∀ W : World, Below w.heap.size w W → st3c W b (off + k * 5) x := by
          intro W hB
          obtain ⟨a0, a1, a2, a3, a4⟩ := hcx
          exact ⟨(hB.cell (p := ⟨b, off + k * 5, none⟩) hbl).trans a0, (hB.cell (p := ⟨b, off + k * 5 + 1, none⟩) hbl).trans a1, (hB.cell (p := ⟨b, off + k * 5 + 2, none⟩) hbl).trans a2, (hB.cell (p := ⟨b, off + k * 5 + 3, none⟩) hbl).trans a3, (hB.cell (p := ⟨b, off + k * 5 + 4, none⟩) hbl).trans a4⟩
        have HCX := Lib.hid hcells
        clear hcx hcells
        obtain ⟨c0, c1, c2, c3, c4⟩ := HCX.out wr hI.dev.below
        have HI := Lib.hid hI
        by_cases h0 : x.op = 0
        · rw [h0] at c0
          have HCX0 : Hid (∀ W : World, Below w.heap.size w W → (W.cell? ⟨b, off + k * 5, none⟩ = some (.int .i64 0) ∧ W.cell? ⟨b, off + k * 5 + 1, none⟩ = some (.int .i64 x.i) ∧ W.cell? ⟨b, off + k * 5 + 2, none⟩ = some (.int .i64 x.k) ∧ W.cell? ⟨b, off + k * 5 + 3, none⟩ = some (.string x.s) ∧ W.cell? ⟨b, off + k * 5 + 4, none⟩ = some (.bool x.raw))) := Lib.hid (fun W hB => by rw [← h0]; exact HCX.out W hB)
          have ht : ∀ W : World, Calls Try.prog 17 #[.agg #[.int .i64 0, .int .i64 x.i, .int .i64 x.k, .string x.s, .bool x.raw]] W fun e w' => e = .returned (.string (tx3 x)) ∧ Below W.heap.size W w' := fun W => by rw [← h0]; exact text_any x W
          have HT := Lib.hid ht
          clear ht hI HCX h0
          by_cases hc : dhas s x.i = true ∧ (tx3 x).size = 64
          · obtain ⟨hd, hb⟩ := hc
            by_cases hxi : x.i = (i : Int)
            · have ex : (x.i == (i : Int)) = true := by simpa using hxi
              have HX := Lib.hid hxi
              clear hxi
              go_wp2_with fail
              first | (go_region_held3 (fun W => W.cell? ⟨b, off + k * 5, none⟩ = some (.int .i64 0) ∧ W.cell? ⟨b, off + k * 5 + 1, none⟩ = some (.int .i64 x.i) ∧ W.cell? ⟨b, off + k * 5 + 2, none⟩ = some (.int .i64 x.k) ∧ W.cell? ⟨b, off + k * 5 + 3, none⟩ = some (.string x.s) ∧ W.cell? ⟨b, off + k * 5 + 4, none⟩ = some (.bool x.raw)) (first | exact ⟨c0, c1, c2, c3, c4⟩ | assumption | exact HCX0.out _ (LaW.below (by assumption))) (first | (go_at_call 17; ((with_reducible refine (HT.out _).mono ?_); rintro e w3 ⟨rfl, hB3⟩; have hI3 : LaW w i k last s w3 := (LaW.of (by first | exact HI.out | exact HI.out.drew) hB3))) | (go_at_call 16; ((with_reducible refine (la_write_yes hI3 (by omega) _ _ hd hb).mono ?_); rintro e w4 ⟨rfl, hI4⟩)))) | fail
              first | (rename_i hK; refine hK _ _ ?_; clear hK) | (rename_i hK _; refine hK _ _ ?_; clear hK) | (rename_i hK _ _; refine hK _ _ ?_; clear hK)
              rw [if_pos HX.out] at hI4
              go_wp2_with fail
              refine (HT.out _).mono ?_
              rintro e w5 ⟨rfl, hB5⟩
              have HI5 := Lib.hid (hI4.of hB5)
              clear hI3 hI4 hB3 hB5
              go_wp2_with fail
              refine (la_read HI5.out hi16).mono ?_
              rintro e w7 ⟨rfl, hX2⟩
              go_wp2_with fail
              go_roundw
              case rel => exact ⟨k + 1, _, _, by omega, rfl, by go_num, hX2⟩
              case measure => simp [intOf]; omega
            · have ex : (x.i == (i : Int)) = false := by simpa using hxi
              have HX := Lib.hid hxi
              clear hxi
              go_wp2_with fail
              first | (go_region_held3 (fun W => W.cell? ⟨b, off + k * 5, none⟩ = some (.int .i64 0) ∧ W.cell? ⟨b, off + k * 5 + 1, none⟩ = some (.int .i64 x.i) ∧ W.cell? ⟨b, off + k * 5 + 2, none⟩ = some (.int .i64 x.k) ∧ W.cell? ⟨b, off + k * 5 + 3, none⟩ = some (.string x.s) ∧ W.cell? ⟨b, off + k * 5 + 4, none⟩ = some (.bool x.raw)) (first | exact ⟨c0, c1, c2, c3, c4⟩ | assumption | exact HCX0.out _ (LaW.below (by assumption))) (first | (go_at_call 17; ((with_reducible refine (HT.out _).mono ?_); rintro e w3 ⟨rfl, hB3⟩; have hI3 : LaW w i k last s w3 := (LaW.of (by first | exact HI.out | exact HI.out.drew) hB3))) | (go_at_call 16; ((with_reducible refine (la_write_yes hI3 (by omega) _ _ hd hb).mono ?_); rintro e w4 ⟨rfl, hI4⟩)))) | fail
              first | (rename_i hK; refine hK _ _ ?_; clear hK) | (rename_i hK _; refine hK _ _ ?_; clear hK) | (rename_i hK _ _; refine hK _ _ ?_; clear hK)
              rw [if_neg HX.out] at hI4
              have HI5 := Lib.hid hI4
              clear hI3 hI4 hB3
              go_wp2_with fail
              refine (la_read HI5.out hi16).mono ?_
              rintro e w7 ⟨rfl, hX2⟩
              go_wp2_with fail
              go_roundw
              case rel => exact ⟨k + 1, _, _, by omega, rfl, by go_num, hX2⟩
              case measure => simp [intOf]; omega
          · have HC2 := Lib.hid hc
            clear hc
            go_wp2_with fail
            refine wp_region_noPanic ?_
            refine wp_region_held_drew (S := (fun W => W.cell? ⟨b, off + k * 5, none⟩ = some (.int .i64 0) ∧ W.cell? ⟨b, off + k * 5 + 1, none⟩ = some (.int .i64 x.i) ∧ W.cell? ⟨b, off + k * 5 + 2, none⟩ = some (.int .i64 x.k) ∧ W.cell? ⟨b, off + k * 5 + 3, none⟩ = some (.string x.s) ∧ W.cell? ⟨b, off + k * 5 + 4, none⟩ = some (.bool x.raw))) (by kernel_rfl) (by exact ⟨c0, c1, c2, c3, c4⟩) (fun hHeld => ?_)
            refine wpAnyH_now (i := 0) (v := ?v0) rfl (by kernel_rfl) (by kernel_rfl) (by kernel_rfl) (fun _ _ _ h => h) (by rfl) ?h0 (by assumption) ?_
            case h0 => ((intro w hSw; (try dsimp only at hSw); go_simp); try with_reducible rfl)
            (try go_frame)
            refine wpAnyH_now (i := 1) (v := ?v1) rfl (by kernel_rfl) (by kernel_rfl) (by kernel_rfl) (fun _ _ _ h => h) (by rfl) ?h1 (by assumption) ?_
            case h1 => ((intro w hSw; (try dsimp only at hSw); go_simp); try with_reducible rfl)
            (try go_frame)
            refine wpAnyH_now (i := 2) (v := ?v2) rfl (by kernel_rfl) (by kernel_rfl) (by kernel_rfl) (fun _ _ _ h => h) (by rfl) ?h2 (by assumption) ?_
            case h2 => ((intro w hSw; (try dsimp only at hSw); go_simp); try with_reducible rfl)
            (try go_frame)
            refine wpAnyH_now (i := 3) (v := ?v3) rfl (by kernel_rfl) (by kernel_rfl) (by kernel_rfl) (fun _ _ _ h => h) (by rfl) ?h3 (by assumption) ?_
            case h3 => ((intro w hSw; (try dsimp only at hSw); go_simp); try with_reducible rfl)
            (try go_frame)
            refine wpAnyH_now (i := 4) (v := ?v4) rfl (by kernel_rfl) (by kernel_rfl) (by kernel_rfl) (fun _ _ _ h => h) (by rfl) ?h4 (by assumption) ?_
            case h4 => ((intro w hSw; (try dsimp only at hSw); go_simp); try with_reducible rfl)
            (try go_frame)
            refine wpAnyH_now (i := 5) (v := ?v5) rfl (by kernel_rfl) (by kernel_rfl) (by kernel_rfl) (fun _ _ _ h => h) (by rfl) ?h5 (by assumption) ?_
            case h5 => ((intro w hSw; (try dsimp only at hSw); go_simp); try with_reducible rfl)
            (try go_frame)
            refine wpAnyH_now (i := 6) (v := ?v6) rfl (by kernel_rfl) (by kernel_rfl) (by kernel_rfl) (fun _ _ _ h => h) (by rfl) ?h6 (by assumption) ?_
            case h6 => ((intro w hSw; (try dsimp only at hSw); go_simp); try with_reducible rfl)
            (try go_frame)
            refine wpAnyH_now (i := 7) (v := ?v7) rfl (by kernel_rfl) (by kernel_rfl) (by kernel_rfl) (fun _ _ _ h => h) (by rfl) ?h7 (by assumption) ?_
            case h7 => ((intro w hSw; (try dsimp only at hSw); go_simp); try with_reducible rfl)
            (try go_frame)
            refine wpAnyH_now (i := 8) (v := ?v8) rfl (by kernel_rfl) (by kernel_rfl) (by kernel_rfl) (fun _ _ _ h => h) (by rfl) ?h8 (by assumption) ?_
            case h8 => ((intro w hSw; (try dsimp only at hSw); go_simp); try with_reducible rfl)
            (try go_frame)
            refine wpAnyH_now (i := 9) (v := ?v9) rfl (by kernel_rfl) (by kernel_rfl) (by kernel_rfl) (fun _ _ _ h => h) (by rfl) ?h9 (by assumption) ?_
            case h9 => ((intro w hSw; (try dsimp only at hSw); go_simp); try with_reducible rfl)
            (try go_frame)
            refine wpAnyH_only (i := 10) (by kernel_rfl) rfl (by rfl) (fun K hK => ?_)
            go_simp
            refine (HT.out _).mono ?_
            rintro e w3 ⟨rfl, hB3⟩
            have hI3 : LaW w i k last s w3 := LaW.of HI.out.drew hB3
            refine hK.out _ _ (by exact HCX0.out _ (LaW.below (by assumption))) (fun hHeld => ?_)
            clear hK K
            (try go_frame)
            refine wpAnyH_only (i := 11) (by kernel_rfl) rfl (by rfl) (fun K hK => ?_)
            go_simp
            refine (la_write_no hI3 _ _ HC2.out).mono ?_
            rintro e w4 ⟨rfl, hI4⟩
            refine hK.out _ _ (by exact HCX0.out _ (LaW.below (by assumption))) (fun hHeld => ?_)
            clear hK K
            (try go_frame)
            refine wpAnyH_now (i := 12) (v := ?v12) rfl (by kernel_rfl) (by kernel_rfl) (by kernel_rfl) (fun _ _ _ h => h) (by rfl) ?h12 (by assumption) ?_
            case h12 => ((intro w hSw; (try dsimp only at hSw); go_simp); try with_reducible rfl)
            (try go_frame)
            refine wpAnyH_now (i := 13) (v := ?v13) rfl (by kernel_rfl) (by kernel_rfl) (by kernel_rfl) (fun _ _ _ h => h) (by rfl) ?h13 (by assumption) ?_
            case h13 => ((intro w hSw; (try dsimp only at hSw); go_simp); try with_reducible rfl)
            (try go_frame)
            refine wpAnyH_skip (i := 14) rfl (by kernel_rfl) (by kernel_rfl) (by kernel_rfl) (fun _ _ _ h => h) (by rfl) (by assumption) ?_
            (try go_frame)
            refine wpAnyH_skip (i := 15) rfl (by kernel_rfl) (by kernel_rfl) (by kernel_rfl) (fun _ _ _ h => h) (by rfl) (by assumption) ?_
            (try go_frame)
            refine wpAnyH_skip (i := 16) rfl (by kernel_rfl) (by kernel_rfl) (by kernel_rfl) (fun _ _ _ h => h) (by rfl) (by assumption) ?_
            (try go_frame)
            refine wpAnyH_skip (i := 17) rfl (by kernel_rfl) (by kernel_rfl) (by kernel_rfl) (fun _ _ _ h => h) (by rfl) (by assumption) ?_
            (try go_frame)
            refine wpAnyH_skip (i := 18) rfl (by kernel_rfl) (by kernel_rfl) (by kernel_rfl) (fun _ _ _ h => h) (by rfl) (by assumption) ?_
            (try go_frame)
            refine wpAnyH_skip (i := 19) rfl (by kernel_rfl) (by kernel_rfl) (by kernel_rfl) (fun _ _ _ h => h) (by rfl) (by assumption) ?_
            (try go_frame)
            refine wpAnyH_skip (i := 20) rfl (by kernel_rfl) (by kernel_rfl) (by kernel_rfl) (fun _ _ _ h => h) (by rfl) (by assumption) ?_
            (try go_frame)
            refine wpAnyH_now (i := 21) (v := ?v21) rfl (by kernel_rfl) (by kernel_rfl) (by kernel_rfl) (fun _ _ _ h => h) (by rfl) ?h21 (by assumption) ?_
            case h21 => ((intro w hSw; (try dsimp only at hSw); go_simp); try with_reducible rfl)
            (try go_frame)
            refine wpAnyH_done (by kernel_rfl) ?_ _
            refine NoPanic.normal ?_
            have HI5 : Hid (LaW w i (k + 1) last s w4) := ⟨hI4.dev, hI4.ok.more, hI4.last⟩
            clear hI3 hI4 hB3
            go_wp2_with fail
            refine (la_read HI5.out hi16).mono ?_
            rintro e w7 ⟨rfl, hX2⟩
            go_wp2_with fail
            go_roundw
            case rel => exact ⟨k + 1, _, _, by omega, rfl, by go_num, hX2⟩
            case measure => simp [intOf]; omega
        · have e0 : (x.op == 0) = false := by simpa using h0
          by_cases h1 : x.op = 1
          · rw [h1] at c0
            clear e0 h0 hI
            have HCX1 : Hid (∀ W : World, Below w.heap.size w W → (W.cell? ⟨b, off + k * 5 + 1, none⟩ = some (.int .i64 x.i) ∧ W.cell? ⟨b, off + k * 5 + 2, none⟩ = some (.int .i64 x.k))) := Lib.hid (fun W hB => ⟨(HCX.out W hB).2.1, (HCX.out W hB).2.2.1⟩)
            go_wp2_with fail
            first | (go_region_held3 (fun W => W.cell? ⟨b, off + k * 5 + 1, none⟩ = some (.int .i64 x.i) ∧ W.cell? ⟨b, off + k * 5 + 2, none⟩ = some (.int .i64 x.k)) (first | exact ⟨c1, c2⟩ | assumption | exact HCX1.out _ (LaW.below (by assumption))) (first | (go_at_call 18; ((with_reducible refine (la_back (by first | exact HI.out | exact HI.out.drew) (by omega) _ _).mono ?_); rintro e w4 ⟨s', r, rfl, hI4⟩)))) | fail
            first | (rename_i hK; refine hK _ _ ?_; clear hK) | (rename_i hK _; refine hK _ _ ?_; clear hK) | (rename_i hK _ _; refine hK _ _ ?_; clear hK)
            have HI5 : Hid (LaW w i (k + 1) last s' w4) := ⟨hI4.dev, hI4.ok.more, hI4.last⟩
            clear hI4
            go_wp2_with fail
            refine (la_read HI5.out hi16).mono ?_
            rintro e w7 ⟨rfl, hX2⟩
            go_wp2_with fail
            go_roundw
            case rel => exact ⟨k + 1, _, _, by omega, rfl, by go_num, hX2⟩
            case measure => simp [intOf]; omega
          · have e1 : (x.op == 1) = false := by simpa using h1
            by_cases h2 : x.op = 2
            · rw [h2] at c0
              clear e0 e1
              go_wp2_with fail
              refine (la_flush HI.out (by omega)).mono ?_
              rintro e w6 ⟨s', rfl, hX, -⟩
              have HX : Hid (LaW w i (k + 1) last s' w6) := ⟨hX.dev, hX.ok.more, hX.last⟩
              clear hX
              go_wp2_with fail
              refine (la_read HX.out hi16).mono ?_
              rintro e w7 ⟨rfl, hX2⟩
              go_wp2_with fail
              go_roundw
              case rel => exact ⟨k + 1, _, _, by omega, rfl, by go_num, hX2⟩
              case measure => simp [intOf]; omega
            · have e2 : (x.op == 2) = false := by simpa using h2
              have HX : Hid (LaW w i (k + 1) last s wr) := ⟨hI.dev, hI.ok.more, hI.last⟩
              clear hI
              go_wp2_with fail
              refine (la_read HX.out hi16).mono ?_
              rintro e w7 ⟨rfl, hX2⟩
              go_wp2_with fail
              go_roundw
              case rel => exact ⟨k + 1, _, _, by omega, rfl, by go_num, hX2⟩
              case measure => simp [intOf]; omega
      · obtain rfl : k = ls.length := by omega
        go_wp2_with fail
        refine (la_flush hI (by omega)).mono ?_
        rintro e w3 ⟨s3, rfl, h3, hl3⟩
        go_wp2_with fail
        refine (o_loose h3.dev).mono ?_
        rintro e w4 ⟨v, rfl, hrow, h4, -⟩
        replace h4 := h4.less (Y := fun _ => False) (fun _ => False.elim)
        rw [hl3] at hrow
        have hcr := crash_idle ⟨#[5, 6, 7]⟩ s3 hl3
        have hnew : newest (crashS ⟨#[5, 6, 7]⟩ s3) i = last := by rw [hcr]; exact h3.last
        have HN := Lib.hid hnew
        have hrows : ∀ j, (s3.rows j).length ≤ 150 := fun j => Nat.le_trans (h3.ok.rows j) hl150
        have hhard : (crashS ⟨#[5, 6, 7]⟩ s3).hard.length = 16 := by rw [crashS_hard]; exact h3.ok.hard
        have HR := Lib.hid hrows
        have HH := Lib.hid hhard
        clear hcr hnew hrows hhard hl3 h3 hI
        obtain ⟨ao, cp, rfl⟩ : ∃ ao cp, v = .slice ao 0 cp := by
          rcases hrow.2 with ⟨rfl, -⟩ | ⟨g, c, cur, rfl, -⟩
          · exact ⟨_, _, rfl⟩
          · exact ⟨_, _, rfl⟩
        clear hrow
        go_wp2_with fail
        refine (o_crash h4 ⟨#[5, 6, 7]⟩ (fun j => Nat.le_trans (HR.out j) (by omega))).mono ?_
        rintro e w5 ⟨rfl, h5, -⟩
        go_wp2_with fail
        refine (o_read h5 rfl i (by rw [HH.out]; exact hi16)).mono ?_
        rw [HN.out]
        rintro e w6 ⟨rfl, h6, -⟩
        go_wp2_with fail
        refine (alive03_any w6).mono ?_
        rintro e w7 ⟨rfl, hB7⟩
        have h7 := h6.of hB7
        go_wp2_with fail
        go_ret
        exact ⟨rfl, h7.below⟩
  · go_wp2_with fail
    refine (alive03_any _).mono ?_
    rintro e w1 ⟨rfl, hB⟩
    go_wp2_with fail
    go_ret
    exact ⟨rfl, hB⟩
end Go.Proofs.Ytjjphcnoegaimaa
