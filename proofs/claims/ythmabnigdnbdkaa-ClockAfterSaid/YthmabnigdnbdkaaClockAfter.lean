/- ClockAfter: what is drawn above the greatest stamp of all is the greatest one. -/
import Derived.Test.YthmabnigdnbdkaaClockOff
import Derived.Test.YthmabnigdnbdkaaSteps
namespace Go.Proofs.Ythmabnigdnbdkaa
open Go.RowKit
set_option maxRecDepth 100000

theorem u7 (k : Nat) (h : k < 8) : u64s 7 k = 7 + k := by
  rw [u64s, IntKind.wrap_u64]; omega
theorem nget_put' (k j v : Int) (N : List (Int × Int)) : nget j (nput k v N) = if j = k then v else nget j N := nget_put k j v N
theorem cmost_put_lt (N : List (Int × Int)) (c : Nat) (hc : c < 8) (d : Int) : ∀ k, k ≤ c → cmost 7 (nput (u64s 7 c) d N) k = cmost 7 N k
  | 0, _ => rfl
  | k + 1, h => by
    simp only [cmost]
    rw [cmost_put_lt N c hc d k (by omega), nget_put, u7 k (by omega), u7 c hc, if_neg (by omega)]
theorem cmost_put (N : List (Int × Int)) (c : Nat) (hc : c < 8) (d : Int) (h0 : 0 ≤ d) (h1 : d ≤ 4611686018427387904) (hd : cwithin (nget (u64s 7 c) N) ≤ d) : ∀ k, c < k → k ≤ 8 → cmost 7 (nput (u64s 7 c) d N) k = max (cmost 7 N k) d
  | 0, h, _ => absurd h (by omega)
  | k + 1, h, h8 => by
    have ed : cwithin d = d := by unfold cwithin; rw [if_neg (by omega)]
    simp only [cmost]
    by_cases hk : k = c
    · subst hk
      rw [cmost_put_lt N k hc d k (Nat.le_refl _), nget_put, if_pos rfl, ed]
      omega
    · rw [cmost_put N c hc d h0 h1 hd k (by omega) (by omega), nget_put, u7 k (by omega), u7 c hc, if_neg (by omega)]
      omega
theorem cmost_ge (N : List (Int × Int)) (c : Nat) : ∀ k, c < k → cwithin (nget (u64s 7 c) N) ≤ cmost 7 N k
  | 0, h => absurd h (by omega)
  | k + 1, h => by
    simp only [cmost]
    by_cases hk : k = c
    · subst hk; omega
    · have := cmost_ge N c k (by omega); omega
/-- How the greatest stamp moves. -/
theorem cstep_most (N N' : List (Int × Int)) (core least d er : Int) (h0 : 0 ≤ least) (h : cstep 7 N core least = (d, er, N')) :
    (er = 0 ∧ cmost 7 N' 8 = max (cmost 7 N 8) d ∧ least < d ∧ 0 ≤ d ∧ d ≤ 4611686018427387904) ∨ (er ≠ 0 ∧ N' = N ∧ (chas core = true → er = 4 ∧ 4611686018427387896 ≤ max (cwithin (nget (u64s 7 core) N)) least)) := by
  unfold cstep at h
  by_cases h1 : chas core = false
  · rw [if_pos h1] at h; cases h
    exact .inr ⟨by decide, rfl, fun h => by rw [h1] at h; cases h⟩
  · rw [if_neg h1] at h
    by_cases h2 : 4611686018427387904 ≤ max (cwithin (nget (u64s 7 core) N)) least
    · rw [if_pos h2] at h; cases h
      exact .inr ⟨by decide, rfl, fun _ => ⟨rfl, by omega⟩⟩
    · rw [if_neg h2] at h
      have hg := cdraw_gt (max (cwithin (nget (u64s 7 core) N)) least) core
      by_cases h3 : 4611686018427387904 < cdraw (max (cwithin (nget (u64s 7 core) N)) least) core
      · rw [if_pos h3] at h; cases h
        exact .inr ⟨by decide, rfl, fun _ => ⟨rfl, by omega⟩⟩
      · rw [if_neg h3] at h; cases h
        have hc : 0 ≤ core ∧ core < 8 := by simpa [chas] using h1
        obtain ⟨c, rfl⟩ := Int.eq_ofNat_of_zero_le hc.1
        refine .inl ⟨rfl, cmost_put N c (by omega) _ (by omega) (by omega) (by omega) 8 (by omega) (by omega), by omega, by omega, by omega⟩

theorem bt {a b c : World} (h : Below a.heap.size a b) (k : Below b.heap.size b c) : Below a.heap.size a c := h.trans (k.mono h.size)
set_option maxHeartbeats 4000000 in
theorem after_walk (v : Value) (ls : List Stp) (core : Int) {w : World} (hs : SlS w v ls) (hwf : (Lit.int .u8 core).wf = true) :
    Calls Try.prog 9 #[v, .int .u8 core] w fun e w' => e = .returned (.bool true) ∧ Below w.heap.size w w' := by
  obtain ⟨⟨ao, cap, rfl, hcs⟩, hzw⟩ := hs
  have hcore : 0 ≤ core ∧ core < 256 := by
    simp [Lit.wf, IntKind.min, IntKind.max, IntKind.signed, IntKind.bits] at hwf
    omega
  by_cases hlong : ls.length ≤ 200
  rotate_left
  · go_enter Try.func9, Try.ntmps9
    go_wp2_with fail
    refine (alive16 _).mono ?_
    rintro e w1 ⟨rfl, hB⟩
    go_wp2_with fail
    go_ret
    exact ⟨rfl, hB⟩
  · go_enter Try.func9, Try.ntmps9
    go_wp2_with fail
    refine (cells_new w).mono ?_
    rintro e w1 ⟨p, m, rfl, hc, hb, hp, hm⟩
    go_wp2_with fail
    refine (coff_new (base := 7) hc hb hp hm).mono ?_
    rintro e w2 ⟨rfl, h2⟩
    generalize w1.heap.size = s at h2 ⊢
    clear hc hb hp hm
    go_wp2_with fail
    go_loopw [7, 8] (fun v7 v8 wr => ∃ k : Nat, ∃ M : Int, ∃ N : List (Int × Int), k ≤ ls.length ∧ v8 = .int .i64 k ∧ v7 = .int .u64 M ∧ Hid (cmost 7 N 8 = M) ∧ COff w p m s 7 N wr) (fun _ v8 _ => ls.length - (intOf v8).toNat)
    case atStart => exact ⟨0, 0, [], by omega, rfl, rfl, Lib.hid (by decide), h2⟩
    case round =>
      obtain ⟨k, M, N, hk, rfl, rfl, HM, hO⟩ := hrel
      clear h2
      by_cases hlt : k < ls.length
      · obtain ⟨b, off, rfl, hbl, hcell⟩ := hcs (by omega)
        obtain ⟨z0, z1, -, -⟩ := hcell k hlt
        obtain ⟨-, hlw, -⟩ := hzw _ (List.getElem_mem hlt)
        rw [List.getD_eq_getElem?_getD, List.getElem?_eq_getElem hlt, Option.getD_some] at z0 z1
        generalize ls[k] = z at z0 z1 hlw
        obtain ⟨zc, zl, zs, zv⟩ := z
        replace hlw : (Lit.int .u64 zl).wf = true := hlw
        have hl0 : 0 ≤ zl := by
          simp [Lit.wf, IntKind.min, IntKind.max, IntKind.signed, IntKind.bits] at hlw
          omega
        have HL := Lib.hid hlw
        clear hlw hcell hzw
        obtain ⟨⟨d, er, N'⟩, hst⟩ : ∃ r, cstep 7 N zc zl = r := ⟨_, rfl⟩
        have y0 : ∀ W, Below w.heap.size w W → W.cell? ⟨b, off + k * 4, none⟩ = some (.int .i64 zc) := fun W hB => (hB.cell (p := ⟨b, off + k * 4, none⟩) hbl).trans z0
        have y1 : ∀ W, Below w.heap.size w W → W.cell? ⟨b, off + k * 4 + 1, none⟩ = some (.int .u64 zl) := fun W hB => (hB.cell (p := ⟨b, off + k * 4 + 1, none⟩) hbl).trans z1
        clear z0 z1
        have F0 := y0 _ hO.below
        have F1 := y1 _ hO.below
        clear hcs
        go_wp2_with fail
        go_region_held3 (fun W => W.cell? ⟨b, off + k * 4, none⟩ = some (.int .i64 zc) ∧ W.cell? ⟨b, off + k * 4 + 1, none⟩ = some (.int .u64 zl)) (first | exact ⟨F0, F1⟩ | assumption | exact ⟨y0 _ (COff.below (by assumption)), y1 _ (COff.below (by assumption))⟩) (first | (go_at_call 45; refine (coff_stamp (w0 := w) (p := p) (m := m) (s := s) (base := 7) (N := N) (by first | exact hO | exact hO.drew) zc zl d er N' hst).mono ?_; rintro e w' ⟨rfl, hO'⟩))
        first | (rename_i hK; refine hK _ _ ?_; clear hK) | (rename_i hK _; refine hK _ _ ?_; clear hK) | (rename_i hK _ _; refine hK _ _ ?_; clear hK)
        rename_i hO' _
        rcases cstep_most N N' zc zl d er hl0 hst with ⟨rfl, hM', -, -, -⟩ | ⟨hne, rfl, -⟩
        · have hmm : (if M < d then d else M) = cmost 7 N' 8 := by rw [hM', HM.out]; split <;> omega
          go_wp2_with fail
          go_roundw
          case rel => exact ⟨k + 1, cmost 7 N' 8, N', by omega, by go_num, by simp only [hM', HM.out], Lib.hid rfl, hO'⟩
          case measure => simp [intOf]; omega
        · go_wp2_with fail
          go_roundw
          case rel => exact ⟨k + 1, M, N', by omega, by go_num, rfl, HM, hO'⟩
          case measure => simp [intOf]; omega
      · obtain rfl : k = ls.length := by omega
        clear hcs hzw
        have hc8 : chas (core % 8) = true := by simp [chas]; omega
        obtain ⟨⟨d, er, N'⟩, hst⟩ : ∃ r, cstep 7 N (core % 8) M = r := ⟨_, rfl⟩
        have hM0 : 0 ≤ M ∧ M ≤ 4611686018427387904 := by rw [← HM.out]; exact cmost_bd 7 N 8
        have hge : cwithin (nget (u64s 7 (core % 8)) N) ≤ M := by
          obtain ⟨c, hc⟩ := Int.eq_ofNat_of_zero_le (show 0 ≤ core % 8 by omega)
          rw [hc, ← HM.out]
          exact cmost_ge N c 8 (by omega)
        have hX := cstep_most N N' (core % 8) M d er hM0.1 hst
        go_wp2_with fail
        refine (coff_most hO M HM.out).mono ?_
        rintro e w3 ⟨rfl, h3⟩
        go_wp2_with fail
        refine (coff_stamp h3 (core % 8) M d er N' hst).mono ?_
        rintro e w4 ⟨rfl, h4⟩
        rcases hX with ⟨rfl, hM', hgt, hd0, -⟩ | ⟨hne, rfl, hx⟩
        · have hmm : cmost 7 N' 8 = d := by rw [hM', HM.out]; omega
          go_wp2_with fail
          refine (coff_most h4 d hmm).mono ?_
          rintro e w5 ⟨rfl, h5⟩
          go_wp2_with fail
          refine (alive16 _).mono ?_
          rintro e w6 ⟨rfl, hB⟩
          go_wp2_with fail
          go_ret
          exact ⟨rfl, bt h5.below hB⟩
        · obtain ⟨rfl, hbig⟩ := hx hc8
          have hbig' : 4611686018427387895 < M := by omega
          go_wp2_with fail
          refine (alive16 _).mono ?_
          rintro e w6 ⟨rfl, hB⟩
          go_wp2_with fail
          go_ret
          exact ⟨rfl, bt h4.below hB⟩
end Go.Proofs.Ythmabnigdnbdkaa
