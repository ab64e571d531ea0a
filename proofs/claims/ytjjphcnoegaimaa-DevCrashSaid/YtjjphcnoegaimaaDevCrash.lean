/- lunettelaw03.DevCrash: the walk. -/
import Derived.Test.YtjjphcnoegaimaaCrashP
import Derived.Test.YtjjphcnoegaimaaSide03
import Derived.Test.YtjjphcnoegaimaaApp03
import Derived.Test.YtjjphcnoegaimaaDevFuse
namespace Go.Proofs.Ytjjphcnoegaimaa
open Go.RowKit Go.Shelf Go.Maps
set_option maxRecDepth 20000
set_option linter.unusedVariables false
set_option linter.unusedSimpArgs false

section
variable {w W W' : World} {A p k : Nat} {f : Nat → List ByteArray} {s : DS} {L : List (Nat × DS)}
theorem ownsRow_down {b B : Nat} {e : TypeId} {size : Nat} {v : Value} {n : Nat} {xs : List Value} (h : W.ownsRow b e size v n xs) (hb : B ≤ b) : W.ownsRow B e size v n xs := by
  refine ⟨h.1, ?_⟩
  rcases h.2 with h' | ⟨g, cap, cur, a1, a2, a3⟩
  · exact .inl h'
  · exact .inr ⟨g, cap, cur, a1, Nat.le_trans hb a2, a3⟩
theorem i64_id {n : Int} (h0 : -9223372036854775808 ≤ n) (h1 : n ≤ 9223372036854775807) : IntKind.i64.wrap n = n := IntWalk.i64_in _ (by omega)
theorem cw_write (h : CrS w A f [(p, s)] W) (hk : CrK k f s) (hk2 : k ≤ 150) (I : Int) (b : ByteArray) : Calls Try.prog 16 #[.pointer (some ⟨p, 0, none⟩), .int .i64 I, .string b] W fun e W' =>
    (e = .returned (.int .i64 0) ∧ ∃ i : Nat, I = i ∧ i < 16 ∧ s.dead = false ∧ CrS w A f [(p, wrS s i b)] W') ∨ (∃ r, e = .returned (.int .i64 r) ∧ (r == 0) = false ∧ CrS w A f [(p, s)] W') := by
  obtain ⟨X, hd, hXA, hs⟩ := h.lens (j := 0) rfl
  have hh := hk.hard
  cases hdd : s.dead
  · by_cases hc : dhas s I = true ∧ b.size = 64
    · obtain ⟨hc, hb⟩ := hc
      have hr : 0 ≤ I ∧ I < s.hard.length := by simpa [dhas] using hc
      obtain ⟨I, rfl⟩ := Int.eq_ofNat_of_zero_le hr.1
      have h0 := hk.w0
      have h1 := hk.w1
      have h2 := hk.l0
      have h3 := hk.l1
      have hrr := hk.rows I
      refine (o_write hd hdd I (by omega) b hb (by omega) (u64_small (by omega) (by omega)) (i64_id (by omega) (by omega))).mono ?_
      rintro e W' ⟨rfl, g1, g2⟩
      exact .inl ⟨rfl, I, rfl, by omega, rfl, hs _ _ g1 g2⟩
    · refine (write_no hd.dev hdd I b ?_).mono ?_
      · by_cases hd : dhas s I = true
        · exact .inr (fun hb => hc ⟨hd, hb⟩)
        · exact .inl (by simpa using hd)
      · rintro e W' ⟨rfl, rfl⟩
        exact .inr ⟨2, rfl, by decide, h⟩
  · refine (write_down hd.dev hdd I b).mono ?_
    rintro e W' ⟨rfl, rfl⟩
    exact .inr ⟨30, rfl, by decide, h⟩
theorem cw_back_yes (h : CrS w A f [(p, s)] W) (hk : CrK k f s) (hk2 : k ≤ 150) (i c : Nat) (hi : i < 16) (hc : c ≤ (s.rows i).length) (hdd : s.dead = false) : Calls Try.prog 18 #[.pointer (some ⟨p, 0, none⟩), .int .i64 i, .int .i64 c] W fun e W' =>
    e = .returned (.int .i64 0) ∧ CrS w A f [(p, keepS s i c)] W' ∧ W'.heap[A]? = W.heap[A]? := by
  obtain ⟨X, hd, hXA, hs⟩ := h.lens (j := 0) rfl
  have hh := hk.hard
  have hrr := hk.rows i
  refine (o_back hd hdd i c (by omega) hc (by omega)).mono ?_
  rintro e W' ⟨rfl, g1, g2⟩
  exact ⟨rfl, hs _ _ g1 g2, g2 A hXA⟩
theorem cw_back_no (h : CrS w A f [(p, s)] W) (hk : CrK k f s) (I K : Int) (hc : ¬ (0 ≤ I ∧ I < 16 ∧ 0 ≤ K ∧ K ≤ (s.rows I).length ∧ s.dead = false)) : Calls Try.prog 18 #[.pointer (some ⟨p, 0, none⟩), .int .i64 I, .int .i64 K] W fun e W' =>
    ∃ r, e = .returned (.int .i64 r) ∧ (r == 0) = false ∧ W' = W := by
  obtain ⟨X, hd, hXA, hs⟩ := h.lens (j := 0) rfl
  have hh := hk.hard
  cases hdd : s.dead
  · rw [hdd] at hc
    refine (back_no hd.dev hdd I K ?_).mono ?_
    · by_cases hd : dhas s I = true
      · have hr : 0 ≤ I ∧ I < s.hard.length := by simpa [dhas] using hd
        by_cases h0 : K < 0
        · exact .inr (.inl h0)
        · exact .inr (.inr (by
            by_cases h1 : K ≤ (s.rows I).length
            · exact absurd ⟨hr.1, by omega, by omega, h1, rfl⟩ hc
            · omega))
      · exact .inl (by simpa using hd)
    · rintro e W' ⟨rfl, rfl⟩
      exact ⟨2, rfl, by decide, rfl⟩
  · refine (back_down hd.dev hdd I K).mono ?_
    rintro e W' ⟨rfl, rfl⟩
    exact ⟨30, rfl, by decide, rfl⟩
theorem cw_fuse (h : CrS w A f [(p, s)] W) (hk : CrK k f s) (n : Int) (hn : (Lit.int .i64 n).wf = true) : Calls Try.prog 23 #[.pointer (some ⟨p, 0, none⟩), .int .i64 n] W fun e W' =>
    ∃ r s', e = .returned (.int .i64 r) ∧ CrS w A f [(p, s')] W' ∧ CrK (k + 1) f s' := by
  obtain ⟨X, hd, hXA, hs⟩ := h.lens (j := 0) rfl
  have hw : -9223372036854775808 ≤ n ∧ n ≤ 9223372036854775807 := by simpa [Lit.wf, IntKind.min, IntKind.max, IntKind.signed, IntKind.bits] using hn
  by_cases h0 : 0 ≤ n
  · refine (o_fuse hd n h0).mono ?_
    rintro e W' ⟨rfl, g1, g2⟩
    exact ⟨_, _, rfl, hs _ _ g1 g2, hk.fused n h0 hw.2⟩
  · refine (fuse_no hd.dev n (by omega)).mono ?_
    rintro e W' ⟨rfl, rfl⟩
    exact ⟨_, s, rfl, h, hk.more⟩
/-- One of the devices crashes. -/
theorem cw_crash (h : CrS w A f L W) {j p : Nat} {s : DS} (hj : L[j]? = some (p, s)) (hr : ∀ j, (s.rows j).length ≤ 100000) (keep : ByteArray) : Calls Try.prog 22 #[.pointer (some ⟨p, 0, none⟩), .string keep] W fun e W' =>
    e = .returned (.int .i64 0) ∧ CrS w A f (L.set j (p, crashS keep s)) W' := by
  obtain ⟨X, hd, hXA, hs⟩ := h.lens hj
  refine (o_crash hd keep hr).mono ?_
  rintro e W' ⟨rfl, g1, g2⟩
  exact ⟨rfl, hs _ _ g1 g2⟩
theorem cw_read (h : CrS w A f L W) {j p : Nat} {s : DS} (hj : L[j]? = some (p, s)) (hd2 : s.dead = false) (hh : s.hard.length = 16) (i : Nat) (hi : i < 16) (b : ByteArray) (hb : newest s i = b) : Calls Try.prog 20 #[.pointer (some ⟨p, 0, none⟩), .int .i64 i] W fun e W' =>
    e = .returned (.tuple #[.string b, .int .i64 0]) ∧ CrS w A f L W' := by
  obtain ⟨X, hd, hXA, hs⟩ := h.lens hj
  refine (o_read hd hd2 i (by omega)).mono ?_
  rintro e W' ⟨rfl, g1, g2⟩
  have e : L.set j (p, s) = L := by
    obtain ⟨hl, e⟩ := List.getElem?_eq_some_iff.1 hj
    rw [← e]
    exact List.set_getElem_self hl
  have := hs _ _ g1 g2
  rw [e] at this
  exact ⟨by rw [hb], this⟩
theorem cw_loose (h : CrS w A f L W) {j p : Nat} {s : DS} (hj : L[j]? = some (p, s)) : Calls Try.prog 21 #[.pointer (some ⟨p, 0, none⟩)] W fun e W' => ∃ v, e = .returned v ∧ W'.ownsRow W.heap.size 3 1 v (looseOf s).length ((looseOf s).map (Value.int .i64)) ∧ CrS w A f L W' := by
  obtain ⟨X, hd, hXA, hs⟩ := h.lens hj
  refine (o_loose hd).mono ?_
  rintro e W' ⟨v, rfl, h1, h2, h3⟩
  exact ⟨v, rfl, h1, h.of h3⟩
theorem cw_cached (h : CrS w A f L W) {j p : Nat} {s : DS} (hj : L[j]? = some (p, s)) (i : Int) : Calls Try.prog 27 #[.pointer (some ⟨p, 0, none⟩), .int .i64 i] W fun e W' => e = .returned (.int .i64 (s.rows i).length) ∧ W = W' := by
  obtain ⟨X, hd, hXA, hs⟩ := h.lens hj
  exact o_cached hd i
end

theorem crW (keep : ByteArray) (s : DS) : (crashS keep s).writes = s.writes := by
  have H1 : ∀ (k : Nat) (s : DS) (i : Nat), (crash1 keep k s i).writes = s.writes := by
    intro k s i
    unfold crash1 keepS
    dsimp only
    split <;> try rfl
    split <;> rfl
  have H : ∀ {n : Nat} (l : List (Fin n)) (k : Nat) (s : DS), (crashL keep k s l).writes = s.writes := by
    intro n l
    induction l with
    | nil => intro k s; rfl
    | cons a l ih => intro k s; rw [crashL, ih, H1]
  exact H (looseF s) 0 s
theorem looseOf_len (s : DS) : (looseOf s).length ≤ s.hard.length := by
  rw [← looseF_val, List.length_map]
  exact Nat.le_trans (List.length_filter_le _ _) (by simp)
theorem ints_form {W : World} {B : Nat} {v : Value} {l : List Int} (h : W.ownsRow B 3 1 v l.length (l.map (Value.int .i64))) : ∃ lp c, v = .slice lp l.length c ∧ ∀ j i, l[j]? = some i → ∃ g, lp = some ⟨g, 0, none⟩ ∧ g < W.heap.size ∧ W.cell? ⟨g, j, none⟩ = some (.int .i64 i) := by
  have h' := h
  rcases h.2 with ⟨rfl, h0⟩ | ⟨g, c, cur, rfl, h0, hh, hr⟩
  · have e : l = [] := List.length_eq_zero_iff.1 (by omega)
    subst e
    exact ⟨none, 0, rfl, fun j i hj => by simp at hj⟩
  · exact ⟨_, c, rfl, fun j i hj => ⟨g, rfl, blk_lt hh, ownsRow_cell (ownsRow_base h') rfl (by rw [List.getElem?_map, hj]; rfl)⟩⟩
theorem toList_ne {a b : ByteArray} (h : ¬ a = b) : (a.toList == b.toList) = false := by
  rw [beq_eq_false_iff_ne]
  intro e
  rw [Go.ByteArray.toList_eq, Go.ByteArray.toList_eq] at e
  exact h (ByteArray.ext (Array.toList_inj.1 e))
theorem bc_one (q : Nat) (h : q ≤ 150) : bc [UInt8.ofNat q] = #[.int .u8 (q : Int)] := by
  have : (UInt8.ofNat q).toNat = q := by simp; omega
  simp only [bc, List.map_cons, List.map_nil, this]

set_option maxRecDepth 100000 in
set_option maxHeartbeats 20000000 in
theorem crash_walk {w : World} (v : Value) (ls : List St3) (keep : ByteArray) (hsl : Sl3 w v ls) (hkeep : keep.size ≤ 140737488351232) : Calls Try.prog 5 #[v, .string keep] w fun e w' => e = .returned (.bool true) ∧ Below w.heap.size w w' := by
  have hlong := long_any hsl
  obtain ⟨⟨ao, cap, rfl, hval⟩, hwf⟩ := hsl
  have HL := Lib.hid hlong
  have HV := Lib.hid hval
  have HWF := Lib.hid hwf
  clear hlong hval hwf
  have hz : ∀ W : World, Calls Try.prog 15 #[.string ⟨#[]⟩] W fun e w' => e = .returned (.string zsec) ∧ Below W.heap.size W w' := by
    intro W
    have := sector_any ⟨#[]⟩ W
    rw [sec_nil] at this
    exact this
  have HZ := Lib.hid hz
  clear hz
  by_cases hk100 : keep.size > 100
  · have d0 : decide ((keep.size : Int) > 100) = true := decide_eq_true (by omega)
    go_enter Try.func5, Try.ntmps5
    go_wp2_with fail
    refine HL.out.mono ?_
    rintro e w1 ⟨lb, rfl, hlb, rfl⟩
    cases lb
    all_goals
      go_wp2_with fail
      refine (alive03_any _).mono ?_
      rintro e w1 ⟨rfl, hB⟩
      go_wp2_with fail
      go_ret
      exact ⟨rfl, hB⟩
  have d0 : decide ((keep.size : Int) > 100) = false := decide_eq_false (by omega)
  go_enter Try.func5, Try.ntmps5
  go_wp2_with fail
  refine HL.out.mono ?_
  rintro e w1 ⟨lb, rfl, hlb, rfl⟩
  cases lb
  rotate_left
  · go_wp2_with fail
    refine (alive03_any _).mono ?_
    rintro e w1 ⟨rfl, hB⟩
    go_wp2_with fail
    go_ret
    exact ⟨rfl, hB⟩
  · have hl150 := hlb rfl
    clear hlb HL hk100
    go_wp2_with fail
    clear d0
    refine (o_new 16 (by decide) (by decide) w w (Below.refl _ _)).mono ?_
    rintro e w2 ⟨rfl, h0, hB0⟩
    replace h0 := h0.less (Y := fun _ => False) (fun _ => False.elim)
    go_wp2_with fail
    have hC := CrS.start h0 _ (show #[Value.slice none 0 0, Value.slice none 0 0, Value.slice none 0 0, Value.slice none 0 0, Value.slice none 0 0, Value.slice none 0 0, Value.slice none 0 0, Value.slice none 0 0, Value.slice none 0 0, Value.slice none 0 0, Value.slice none 0 0, Value.slice none 0 0, Value.slice none 0 0, Value.slice none 0 0, Value.slice none 0 0, Value.slice none 0 0] = (List.replicate 16 (Value.slice none 0 0)).toArray from rfl)
    obtain ⟨A, hA⟩ : ∃ A, w2.heap.size = A := ⟨_, rfl⟩
    obtain ⟨p, hp⟩ : ∃ p, w.heap.size + 1 = p := ⟨_, rfl⟩
    obtain ⟨W0, hW0⟩ : ∃ W0, (w2.alloc (.cells #[Value.slice none 0 0, Value.slice none 0 0, Value.slice none 0 0, Value.slice none 0 0, Value.slice none 0 0, Value.slice none 0 0, Value.slice none 0 0, Value.slice none 0 0, Value.slice none 0 0, Value.slice none 0 0, Value.slice none 0 0, Value.slice none 0 0, Value.slice none 0 0, Value.slice none 0 0, Value.slice none 0 0, Value.slice none 0 0] 47)) = W0 := ⟨_, rfl⟩
    rw [hA, hp, hW0] at hC
    rw [hW0]
    simp only [hA, hp]
    clear hA hp hW0 h0 hB0
    go_loopw [8] (fun v wr => ∃ k : Nat, k ≤ 16 ∧ v = .int .i64 k ∧ CrS w A (fun i => if i < k then [zsec] else []) [(p, newS 16)] wr) (fun v _ => 16 - (intOf v).toNat)
    case atStart => exact ⟨0, by omega, rfl, hC⟩
    case round =>
      obtain ⟨k, hk16, rfl, hI⟩ := hrel
      clear hC
      by_cases hlt : k < 16
      · have dl : decide ((k : Int) < 16) = true := decide_eq_true (by omega)
        go_wp2_with fail
        refine (HZ.out _).mono ?_
        rintro e w3 ⟨rfl, hB3⟩
        have hI3 := hI.of hB3
        obtain ⟨u, hu, hf, -⟩ := hI3.row hlt
        have hput := hI3.put (bnew w3 (.cells #[.string zsec] 9)) (own_one w3 zsec) hlt
        have hal := hI3.alt
        rw [World.setCell_alloc_past _ _ _ _ hal] at hput
        have HPUT := Lib.hid hput
        clear hput hI hI3 hB3
        go_wp2_with fail
        go_roundw
        case rel =>
          refine ⟨k + 1, by omega, by go_num, ?_⟩
          have e : updN (fun i => if i < k then [zsec] else []) k [zsec] = fun i => if i < k + 1 then [zsec] else [] := by
            funext j
            unfold updN
            by_cases e1 : j = k
            · rw [if_pos e1, if_pos (by omega)]
            · rw [if_neg e1]
              show (if j < k then [zsec] else []) = (if j < k + 1 then [zsec] else [])
              by_cases e2 : j < k
              · rw [if_pos e2, if_pos (by omega)]
              · rw [if_neg e2, if_neg (by omega)]
          rw [← e]
          exact HPUT.out
        case measure => simp [intOf]; omega
      · have dl : decide ((k : Int) < 16) = false := decide_eq_false (by omega)
        obtain ⟨z, hz⟩ : ∃ z : Int, (k : Int) = z := ⟨_, rfl⟩
        rw [hz] at dl
        simp only [hz]
        obtain rfl : k = 16 := by omega
        clear hz
        have hK0 : CrK 0 (fun i => if i < 16 then [zsec] else []) (newS 16) := CrK.start.congr (fun i hi => by rw [if_pos hi])
        generalize newS 16 = s at *
        generalize (fun i => if i < 16 then [zsec] else []) = f at *
        have HI := Lib.hid hI
        have HK := Lib.hid hK0
        clear hI hK0
        go_wp2_with fail
        clear dl
        go_loopw [9] (fun v wr => ∃ (k : Nat) (f : Nat → List ByteArray) (s : DS), k ≤ ls.length ∧ v = .int .i64 k ∧ CrS w A f [(p, s)] wr ∧ CrK k f s) (fun v _ => ls.length - (intOf v).toNat)
        case atStart => exact ⟨0, f, s, by omega, rfl, HI.out, HK.out⟩
        case round =>
          obtain ⟨k, f, s, hk, rfl, hI, hK⟩ := hrel
          by_cases hlt : k < ls.length
          · have dl : decide ((k : Int) < (ls.length : Int)) = true := decide_eq_true (by omega)
            obtain ⟨b, off, rfl, hbl, hc⟩ := HV.out (by omega)
            obtain ⟨wf0, wf1, wf2, wf3⟩ := HWF.out _ (List.getElem_mem hlt)
            have hwb : w.heap.size ≤ wr.heap.size := hI.below.size
            have hst := (hc k hlt)
            have hx : ls[k] = ls.getD k st0 := by simp [List.getD_eq_getElem?_getD, hlt]
            rw [hx] at wf0 wf1 wf2 wf3
            clear hx hc
            generalize ls.getD k st0 = x at *
            have HST : Hid (∀ W : World, Below w.heap.size w W → st3c W b (off + k * 5) x) := Lib.hid (fun W hB => by
              unfold st3c at hst ⊢
              obtain ⟨q0, q1, q2, q3, q4⟩ := hst
              have e := fun o => cell_eqb (o := o) (hB.block b hbl)
              exact ⟨(e _).trans q0, (e _).trans q1, (e _).trans q2, (e _).trans q3, (e _).trans q4⟩)
            obtain ⟨c0, c1, c2, c3, c4⟩ := HST.out wr hI.below
            have WX := Lib.hid (And.intro wf0 (And.intro wf1 (And.intro wf2 wf3)))
            clear hst wf0 wf1 wf2 wf3 HK HI
            have HI := Lib.hid hI
            have HK := Lib.hid hK
            clear hI hK
            obtain ⟨xo, xi, xk, xs, xr⟩ := x
            dsimp only at c0 c1 c2 c3 c4
            by_cases h0 : xo = 0
            · subst h0
              have ht := text_any ⟨0, xi, xk, xs, xr⟩
              have HT := Lib.hid ht
              clear ht
              go_wp2_with fail
              refine (HT.out _).mono ?_
              rintro e w3 ⟨rfl, hB3⟩
              have hI3 := HI.out.of hB3
              go_wp2_with fail
              refine (cw_write hI3 HK.out (by omega) _ _).mono ?_
              rintro e w4 (⟨rfl, i, rfl, hi16, hdd, hI4⟩ | ⟨r, rfl, hr0, hI4⟩)
              · have d1 : decide ((i : Int) ≥ 0) = true := decide_eq_true (by omega)
                have d2 : decide ((i : Int) < 16) = true := decide_eq_true (by omega)
                have hK2 := HK.out.write hdd i hi16 (tx3 ⟨0, i, xk, xs, xr⟩)
                have HK2 := Lib.hid hK2
                have hfl := HK.out.len hi16
                have hfr := HK.out.rows i
                have hfn := HK.out.ne hi16
                obtain ⟨e0, e1, e2, e3, e4⟩ := HST.out w4 hI4.below
                have H4 := Lib.hid hI4
                have E := Lib.hid (And.intro e0 (And.intro e1 (And.intro e2 (And.intro e3 e4))))
                clear hI3 hI4 hK2 hB3 hdd c0 c1 c2 c3 c4 e0 e1 e2 e3 e4
                go_wp2_with fail
                refine wp_region_noPanic ?_
                have hii : (i : Int) < 16 := by omega
                obtain ⟨u, hu, hfz, hrow⟩ := H4.out.row hi16
                obtain ⟨g, c, rfl, hgl, hgc, hgm, hgx⟩ := row_form hrow hfn
                refine region_namedZ (S := (fun W' => W'.cell? ⟨A, i, none⟩ = some (.slice (some ⟨g, 0, none⟩) (f i).length c) ∧ W'.frozen? ⟨A, i, none⟩ = false ∧ W'.cell? ⟨b, off + k * 5, none⟩ = some (.int .i64 0) ∧ W'.cell? ⟨b, off + k * 5 + 1, none⟩ = some (.int .i64 i) ∧ W'.cell? ⟨b, off + k * 5 + 2, none⟩ = some (.int .i64 xk) ∧ W'.cell? ⟨b, off + k * 5 + 3, none⟩ = some (.string xs) ∧ W'.cell? ⟨b, off + k * 5 + 4, none⟩ = some (.bool xr))) 13 (by kernel_rfl) (fun W2 HW2 => ?_)
                have hI2 : CrS w A f [(p, wrS s i (tx3 ⟨0, i, xk, xs, xr⟩))] W2 := by rw [HW2.out]; exact H4.out.drew
                have HI2 := Lib.hid hI2
                have hal2 := hI2.alt
                have hgl2 : g < W2.heap.size := by rw [HW2.out]; exact hgl
                have hS0 : ∀ W', Below W2.heap.size W2 W' → (W'.cell? ⟨A, i, none⟩ = some (.slice (some ⟨g, 0, none⟩) (f i).length c) ∧ W'.frozen? ⟨A, i, none⟩ = false ∧ W'.cell? ⟨b, off + k * 5, none⟩ = some (.int .i64 0) ∧ W'.cell? ⟨b, off + k * 5 + 1, none⟩ = some (.int .i64 i) ∧ W'.cell? ⟨b, off + k * 5 + 2, none⟩ = some (.int .i64 xk) ∧ W'.cell? ⟨b, off + k * 5 + 3, none⟩ = some (.string xs) ∧ W'.cell? ⟨b, off + k * 5 + 4, none⟩ = some (.bool xr)) := by
                  intro W' hB
                  obtain ⟨x1, x2, x3, x4, x5⟩ := HST.out W' (HI2.out.of hB).below
                  have hu2 : W2.cell? ⟨A, i, none⟩ = some (.slice (some ⟨g, 0, none⟩) (f i).length c) := by rw [HW2.out]; exact hu
                  have hf2 : W2.frozen? ⟨A, i, none⟩ = false := by rw [HW2.out]; exact hfz
                  exact ⟨((bcell hB).1 _ _ hal2).trans hu2, ((bcell hB).2 _ _ hal2).trans hf2, x1, x2, x3, x4, x5⟩
                have HS := Lib.hid hS0
                have hR0 : f i ≠ [] ∧ (f i).length ≤ 100000 ∧ ∀ W', Below W2.heap.size W2 W' → ∀ j y, (f i)[j]? = some y → W'.cell? ⟨g, j, none⟩ = some (.string y) := by
                  refine ⟨hfn, by omega, fun W' hB j y hj => ((bcell hB).1 _ _ hgl2).trans ?_⟩
                  rw [HW2.out]
                  exact hgx j y hj
                have HR := Lib.hid hR0
                have hHeld := hS0 W2 (Below.refl _ _)
                clear hu hfz hrow hgl hgc hgm hgx hfn hfr hfl hI2 hal2 hgl2 hS0 hR0
                refine wpAnyZ_now (i := 0) (v := ?v700) rfl (by kernel_rfl) (by kernel_rfl) (by kernel_rfl) (by kernel_rfl) (fun _ _ _ h => h) (by rfl) ?h700 (by assumption) ?_
                case h700 => ((intro w hSw; (try dsimp only at hSw); go_simp); try with_reducible rfl)
                (try simp only [Act.put, List.setIfInBounds_toArray, List.set_cons_succ, List.set_cons_zero])
                refine wpAnyZ_now (i := 1) (v := ?v701) rfl (by kernel_rfl) (by kernel_rfl) (by kernel_rfl) (by kernel_rfl) (fun _ _ _ h => h) (by rfl) ?h701 (by assumption) ?_
                case h701 => ((intro w hSw; (try dsimp only at hSw); go_simp); try with_reducible rfl)
                (try simp only [Act.put, List.setIfInBounds_toArray, List.set_cons_succ, List.set_cons_zero])
                refine wpAnyZ_now (i := 2) (v := ?v702) rfl (by kernel_rfl) (by kernel_rfl) (by kernel_rfl) (by kernel_rfl) (fun _ _ _ h => h) (by rfl) ?h702 (by assumption) ?_
                case h702 => ((intro w hSw; (try dsimp only at hSw); go_simp); try with_reducible rfl)
                (try simp only [Act.put, List.setIfInBounds_toArray, List.set_cons_succ, List.set_cons_zero])
                refine wpAnyZ_now (i := 3) (v := ?v703) rfl (by kernel_rfl) (by kernel_rfl) (by kernel_rfl) (by kernel_rfl) (fun _ _ _ h => h) (by rfl) ?h703 (by assumption) ?_
                case h703 => ((intro w hSw; (try dsimp only at hSw); go_simp); try with_reducible rfl)
                (try simp only [Act.put, List.setIfInBounds_toArray, List.set_cons_succ, List.set_cons_zero])
                refine wpAnyZ_now (i := 5) (v := ?v704) rfl (by kernel_rfl) (by kernel_rfl) (by kernel_rfl) (by kernel_rfl) (fun _ _ _ h => h) (by rfl) ?h704 (by assumption) ?_
                case h704 => ((intro w hSw; (try dsimp only at hSw); go_simp); try with_reducible rfl)
                (try simp only [Act.put, List.setIfInBounds_toArray, List.set_cons_succ, List.set_cons_zero])
                refine wpAnyZ_now (i := 6) (v := ?v705) rfl (by kernel_rfl) (by kernel_rfl) (by kernel_rfl) (by kernel_rfl) (fun _ _ _ h => h) (by rfl) ?h705 (by assumption) ?_
                case h705 => ((intro w hSw; (try dsimp only at hSw); go_simp); try with_reducible rfl)
                (try simp only [Act.put, List.setIfInBounds_toArray, List.set_cons_succ, List.set_cons_zero])
                refine wpAnyZ_now (i := 7) (v := ?v706) rfl (by kernel_rfl) (by kernel_rfl) (by kernel_rfl) (by kernel_rfl) (fun _ _ _ h => h) (by rfl) ?h706 (by assumption) ?_
                case h706 => ((intro w hSw; (try dsimp only at hSw); go_simp); try with_reducible rfl)
                (try simp only [Act.put, List.setIfInBounds_toArray, List.set_cons_succ, List.set_cons_zero])
                refine wpAnyZ_now (i := 8) (v := ?v707) rfl (by kernel_rfl) (by kernel_rfl) (by kernel_rfl) (by kernel_rfl) (fun _ _ _ h => h) (by rfl) ?h707 (by assumption) ?_
                case h707 => ((intro w hSw; (try dsimp only at hSw); go_simp); try with_reducible rfl)
                (try simp only [Act.put, List.setIfInBounds_toArray, List.set_cons_succ, List.set_cons_zero])
                refine wpAnyZ_only (i := 4) (by kernel_rfl) rfl (by decide) (by rfl) (fun K hK => ?_)
                refine append_nil_row (.const (.slice none 0 0)) (.tmp 90) rfl (f i) g 0 c rfl (by rfl) HR.out.1 HR.out.2.1 (fun j y hj => by rw [Nat.zero_add]; exact (HR.out.2.2 _ (Below.refl W2.heap.size W2)) j y hj) (fun g1 c1 wa hown hBwa => ?_)
                refine hK.out _ _ (by exact HS.out _ (hBwa)) (fun hHeld => ?_)
                clear hK K
                (try simp only [Act.put, List.setIfInBounds_toArray, List.set_cons_succ, List.set_cons_zero])
                refine wpAnyZ_only (i := 9) (by kernel_rfl) rfl (by decide) (by rfl) (fun K hK => ?_)
                go_simp
                refine (HT.out _).mono ?_
                rintro e wb ⟨rfl, hBwb⟩
                refine hK.out _ _ (by exact HS.out _ (bt hBwa hBwb)) (fun hHeld => ?_)
                clear hK K
                (try simp only [Act.put, List.setIfInBounds_toArray, List.set_cons_succ, List.set_cons_zero])
                refine wpAnyZ_only (i := 10) (by kernel_rfl) rfl (by decide) (by rfl) (fun K hK => ?_)
                go_simp
                refine hK.out _ _ (by exact HS.out _ (bal (bt hBwa hBwb) _)) (fun hHeld => ?_)
                clear hK K
                (try simp only [Act.put, List.setIfInBounds_toArray, List.set_cons_succ, List.set_cons_zero])
                refine wpAnyZ_only (i := 11) (by kernel_rfl) rfl (by decide) (by rfl) (fun K hK => ?_)
                refine append_one_row (.tmp 91) (.tmp 97) rfl (f i) _ W2.heap.size g1 c1 _ rfl (by rfl) HR.out.2.1 (row_below9 (row_below9 hown hBwb) (bnew wb _)) (bal (bt hBwa hBwb) _).size (cl_of (hp_new wb _ rfl) 0) (fun g3 c3 wc hown3 hBwc => ?_)
                refine hK.out _ _ (by exact HS.out _ ((bal (bt hBwa hBwb) _).trans hBwc)) (fun hHeld => ?_)
                clear hK K
                (try simp only [Act.put, List.setIfInBounds_toArray, List.set_cons_succ, List.set_cons_zero])
                refine wpAnyZ_now (i := 12) (v := ?v708) rfl (by kernel_rfl) (by kernel_rfl) (by kernel_rfl) (by kernel_rfl) (fun _ _ _ h => h) (by rfl) ?h708 (by assumption) ?_
                case h708 => ((intro w hSw; (try dsimp only at hSw); go_simp); try with_reducible rfl)
                (try simp only [Act.put, List.setIfInBounds_toArray, List.set_cons_succ, List.set_cons_zero])
                refine wpAnyZ_last (by kernel_rfl) rfl (by rfl) (fun K hK => ?_)
                have hal : A < wc.heap.size := (HI2.out.of ((bal (bt hBwa hBwb) _).trans hBwc)).alt
                have hput := HI2.out.put ((bal (bt hBwa hBwb) _).trans hBwc) hown3 hi16
                have hcl := (HS.out _ ((bal (bt hBwa hBwb) _).trans hBwc))
                obtain ⟨q0, q1, -⟩ := hcl
                go_simp
                refine hK.out _ _ ?_
                clear hK K
                (try simp only [Act.put, List.setIfInBounds_toArray, List.set_cons_succ, List.set_cons_zero])
                refine wpAnyZ_done (by kernel_rfl) ?_ _
                refine NoPanic.normal ?_
                simp only [List.length_append, List.length_cons, List.length_nil, Nat.zero_add] at hput
                have HPUT := Lib.hid hput
                clear hput hown hown3 hal q0 q1
                go_wp2_with fail
                go_roundw
                case rel => exact ⟨k + 1, _, _, by omega, by go_num, HPUT.out, HK2.out⟩
                case measure => simp [intOf]; omega
              · have HI4 := Lib.hid hI4
                have HK4 := Lib.hid HK.out.more
                clear hI3 hI4 hB3
                go_wp2_with fail
                go_roundw
                case rel => exact ⟨k + 1, _, _, by omega, by go_num, HI4.out, HK4.out⟩
                case measure => simp [intOf]; omega
            · have e0 : (xo == 0) = false := by simpa using h0
              by_cases h1 : xo = 1
              · subst h1
                clear e0 h0
                go_wp2_with fail
                refine wp_region_noPanic ?_
                by_cases hc : 0 ≤ xi ∧ xi < 16 ∧ 0 ≤ xk ∧ xk ≤ (s.rows xi).length ∧ s.dead = false
                · obtain ⟨q0, q1, q2, q3, hdd⟩ := hc
                  obtain ⟨i, rfl⟩ := Int.eq_ofNat_of_zero_le q0
                  obtain ⟨m, rfl⟩ := Int.eq_ofNat_of_zero_le q2
                  have hi16 : i < 16 := by omega
                  have hm : m ≤ (s.rows i).length := by omega
                  have hfl := HK.out.len hi16
                  have hfr := HK.out.rows i
                  have hfn := HK.out.ne hi16
                  have hK2 := HK.out.back i hi16 m hm
                  have HK2 := Lib.hid hK2
                  have d1 : decide ((i : Int) ≥ 0) = true := decide_eq_true (by omega)
                  have d2 : decide ((i : Int) < 16) = true := decide_eq_true (by omega)
                  have d3 : decide ((m : Int) ≥ 0) = true := decide_eq_true (by omega)
                  have d4 : decide ((m : Int) < ((f i).length : Int)) = true := decide_eq_true (by omega)
                  have hii : (i : Int) < 16 := by omega
                  have HBK := Lib.hid (fun (W : World) (h : CrS w A f [(p, s)] W) => cw_back_yes h HK.out (by omega) i m hi16 hm hdd)
                  obtain ⟨u, hu, hfz, hrow⟩ := HI.out.row hi16
                  obtain ⟨g, c, rfl, hgl, hgc, hgm, hgx⟩ := row_form hrow hfn
                  have hal := HI.out.alt
                  have hHU := Lib.hid hu
                  refine region_named (S := (fun W' => W'.cell? ⟨A, i, none⟩ = some (.slice (some ⟨g, 0, none⟩) (f i).length c) ∧ W'.cell? ⟨b, off + k * 5 + 2, none⟩ = some (.int .i64 m))) (by kernel_rfl) (fun W2 HW2 => ?_)
                  have hI2 : CrS w A f [(p, s)] W2 := by rw [HW2.out]; exact HI.out.drew
                  have hu2 : W2.cell? ⟨A, i, none⟩ = some (.slice (some ⟨g, 0, none⟩) (f i).length c) := by rw [HW2.out]; exact hu
                  have HI2 := Lib.hid hI2
                  have HU2 := Lib.hid hu2
                  refine ⟨⟨hu2, (HST.out W2 hI2.below).2.2.1⟩, fun hHeld => ?_⟩
                  clear hI2 hu2 hK2 hdd q0 q1 q2 q3 hrow hu hfz hgx
                  clear c0 c1 c2 c3 c4 hfl hfr hfn hgc hgm hgl hal
                  refine wpAnyH_now (i := 0) (v := ?v709) rfl (by kernel_rfl) (by kernel_rfl) (by kernel_rfl) (fun _ _ _ h => h) (by rfl) ?h709 (by assumption) ?_
                  case h709 => ((intro w hSw; (try dsimp only at hSw); go_simp); try with_reducible rfl)
                  (try simp only [Act.put, List.setIfInBounds_toArray, List.set_cons_succ, List.set_cons_zero])
                  refine wpAnyH_now (i := 1) (v := ?v710) rfl (by kernel_rfl) (by kernel_rfl) (by kernel_rfl) (fun _ _ _ h => h) (by rfl) ?h710 (by assumption) ?_
                  case h710 => ((intro w hSw; (try dsimp only at hSw); go_simp); try with_reducible rfl)
                  (try simp only [Act.put, List.setIfInBounds_toArray, List.set_cons_succ, List.set_cons_zero])
                  refine wpAnyH_now (i := 2) (v := ?v711) rfl (by kernel_rfl) (by kernel_rfl) (by kernel_rfl) (fun _ _ _ h => h) (by rfl) ?h711 (by assumption) ?_
                  case h711 => ((intro w hSw; (try dsimp only at hSw); go_simp); try with_reducible rfl)
                  (try simp only [Act.put, List.setIfInBounds_toArray, List.set_cons_succ, List.set_cons_zero])
                  refine wpAnyH_now (i := 3) (v := ?v712) rfl (by kernel_rfl) (by kernel_rfl) (by kernel_rfl) (fun _ _ _ h => h) (by rfl) ?h712 (by assumption) ?_
                  case h712 => ((intro w hSw; (try dsimp only at hSw); go_simp); try with_reducible rfl)
                  (try simp only [Act.put, List.setIfInBounds_toArray, List.set_cons_succ, List.set_cons_zero])
                  refine wpAnyH_now (i := 4) (v := ?v713) rfl (by kernel_rfl) (by kernel_rfl) (by kernel_rfl) (fun _ _ _ h => h) (by rfl) ?h713 (by assumption) ?_
                  case h713 => ((intro w hSw; (try dsimp only at hSw); go_simp); try with_reducible rfl)
                  (try simp only [Act.put, List.setIfInBounds_toArray, List.set_cons_succ, List.set_cons_zero])
                  refine wpAnyH_now (i := 5) (v := ?v714) rfl (by kernel_rfl) (by kernel_rfl) (by kernel_rfl) (fun _ _ _ h => h) (by rfl) ?h714 (by assumption) ?_
                  case h714 => ((intro w hSw; (try dsimp only at hSw); go_simp); try with_reducible rfl)
                  (try simp only [Act.put, List.setIfInBounds_toArray, List.set_cons_succ, List.set_cons_zero])
                  refine wpAnyH_now (i := 6) (v := ?v715) rfl (by kernel_rfl) (by kernel_rfl) (by kernel_rfl) (fun _ _ _ h => h) (by rfl) ?h715 (by assumption) ?_
                  case h715 => ((intro w hSw; (try dsimp only at hSw); go_simp); try with_reducible rfl)
                  (try simp only [Act.put, List.setIfInBounds_toArray, List.set_cons_succ, List.set_cons_zero])
                  refine wpAnyH_only (i := 7) (by kernel_rfl) rfl (by rfl) (fun K hK => ?_)
                  go_simp
                  refine (HBK.out _ HI2.out).mono ?_
                  rintro e w4 ⟨rfl, hI4, hA4⟩
                  have HI4 := Lib.hid hI4
                  have hcl := (cell_eqb (o := i) hA4).trans HU2.out
                  clear hI4
                  refine hK.out _ _ (by exact ⟨hcl, (HST.out w4 HI4.out.below).2.2.1⟩) (fun hHeld => ?_)
                  clear hK K
                  (try simp only [Act.put, List.setIfInBounds_toArray, List.set_cons_succ, List.set_cons_zero])
                  refine wpAnyH_now (i := 8) (v := ?v716) rfl (by kernel_rfl) (by kernel_rfl) (by kernel_rfl) (fun _ _ _ h => h) (by rfl) ?h716 (by assumption) ?_
                  case h716 => ((intro w hSw; (try dsimp only at hSw); go_simp); try with_reducible rfl)
                  (try simp only [Act.put, List.setIfInBounds_toArray, List.set_cons_succ, List.set_cons_zero])
                  refine wpAnyH_now (i := 9) (v := ?v717) rfl (by kernel_rfl) (by kernel_rfl) (by kernel_rfl) (fun _ _ _ h => h) (by rfl) ?h717 (by assumption) ?_
                  case h717 => ((intro w hSw; (try dsimp only at hSw); go_simp); try with_reducible rfl)
                  (try simp only [Act.put, List.setIfInBounds_toArray, List.set_cons_succ, List.set_cons_zero])
                  refine wpAnyH_now (i := 10) (v := ?v718) rfl (by kernel_rfl) (by kernel_rfl) (by kernel_rfl) (fun _ _ _ h => h) (by rfl) ?h718 (by assumption) ?_
                  case h718 => ((intro w hSw; (try dsimp only at hSw); go_simp); try with_reducible rfl)
                  (try simp only [Act.put, List.setIfInBounds_toArray, List.set_cons_succ, List.set_cons_zero])
                  refine wpAnyH_now (i := 11) (v := ?v719) rfl (by kernel_rfl) (by kernel_rfl) (by kernel_rfl) (fun _ _ _ h => h) (by rfl) ?h719 (by assumption) ?_
                  case h719 => ((intro w hSw; (try dsimp only at hSw); go_simp); try with_reducible rfl)
                  (try simp only [Act.put, List.setIfInBounds_toArray, List.set_cons_succ, List.set_cons_zero])
                  refine wpAnyH_now (i := 12) (v := ?v720) rfl (by kernel_rfl) (by kernel_rfl) (by kernel_rfl) (fun _ _ _ h => h) (by rfl) ?h720 (by assumption) ?_
                  case h720 => ((intro w hSw; (try dsimp only at hSw); go_simp); try with_reducible rfl)
                  (try simp only [Act.put, List.setIfInBounds_toArray, List.set_cons_succ, List.set_cons_zero])
                  refine wpAnyH_now (i := 13) (v := ?v721) rfl (by kernel_rfl) (by kernel_rfl) (by kernel_rfl) (fun _ _ _ h => h) (by rfl) ?h721 (by assumption) ?_
                  case h721 => ((intro w hSw; (try dsimp only at hSw); go_simp); try with_reducible rfl)
                  (try simp only [Act.put, List.setIfInBounds_toArray, List.set_cons_succ, List.set_cons_zero])
                  refine wpAnyH_now (i := 14) (v := ?v722) rfl (by kernel_rfl) (by kernel_rfl) (by kernel_rfl) (fun _ _ _ h => h) (by rfl) ?h722 (by assumption) ?_
                  case h722 => ((intro w hSw; (try dsimp only at hSw); go_simp); try with_reducible rfl)
                  (try simp only [Act.put, List.setIfInBounds_toArray, List.set_cons_succ, List.set_cons_zero])
                  refine wpAnyH_now (i := 15) (v := ?v723) rfl (by kernel_rfl) (by kernel_rfl) (by kernel_rfl) (fun _ _ _ h => h) (by rfl) ?h723 (by assumption) ?_
                  case h723 => ((intro w hSw; (try dsimp only at hSw); go_simp); try with_reducible rfl)
                  (try simp only [Act.put, List.setIfInBounds_toArray, List.set_cons_succ, List.set_cons_zero])
                  refine wpAnyH_now (i := 16) (v := ?v724) rfl (by kernel_rfl) (by kernel_rfl) (by kernel_rfl) (fun _ _ _ h => h) (by rfl) ?h724 (by assumption) ?_
                  case h724 => ((intro w hSw; (try dsimp only at hSw); go_simp); try with_reducible rfl)
                  (try simp only [Act.put, List.setIfInBounds_toArray, List.set_cons_succ, List.set_cons_zero])
                  refine wpAnyH_now (i := 17) (v := ?v725) rfl (by kernel_rfl) (by kernel_rfl) (by kernel_rfl) (fun _ _ _ h => h) (by rfl) ?h725 (by assumption) ?_
                  case h725 => ((intro w hSw; (try dsimp only at hSw); go_simp); try with_reducible rfl)
                  (try simp only [Act.put, List.setIfInBounds_toArray, List.set_cons_succ, List.set_cons_zero])
                  refine wpAnyH_now (i := 18) (v := ?v726) rfl (by kernel_rfl) (by kernel_rfl) (by kernel_rfl) (fun _ _ _ h => h) (by rfl) ?h726 (by assumption) ?_
                  case h726 => ((intro w hSw; (try dsimp only at hSw); go_simp); try with_reducible rfl)
                  (try simp only [Act.put, List.setIfInBounds_toArray, List.set_cons_succ, List.set_cons_zero])
                  refine wpAnyH_now (i := 19) (v := ?v727) rfl (by kernel_rfl) (by kernel_rfl) (by kernel_rfl) (fun _ _ _ h => h) (by rfl) ?h727 (by assumption) ?_
                  case h727 => ((intro w hSw; (try dsimp only at hSw); go_simp); try with_reducible rfl)
                  (try simp only [Act.put, List.setIfInBounds_toArray, List.set_cons_succ, List.set_cons_zero])
                  refine wpAnyH_now (i := 20) (v := ?v728) rfl (by kernel_rfl) (by kernel_rfl) (by kernel_rfl) (fun _ _ _ h => h) (by rfl) ?h728 (by assumption) ?_
                  case h728 => ((intro w hSw; (try dsimp only at hSw); go_simp); try with_reducible rfl)
                  (try simp only [Act.put, List.setIfInBounds_toArray, List.set_cons_succ, List.set_cons_zero])
                  refine wpAnyH_now (i := 21) (v := ?v729) rfl (by kernel_rfl) (by kernel_rfl) (by kernel_rfl) (fun _ _ _ h => h) (by rfl) ?h729 (by assumption) ?_
                  case h729 => ((intro w hSw; (try dsimp only at hSw); go_simp); try with_reducible rfl)
                  (try simp only [Act.put, List.setIfInBounds_toArray, List.set_cons_succ, List.set_cons_zero])
                  refine wpAnyH_now (i := 22) (v := ?v730) rfl (by kernel_rfl) (by kernel_rfl) (by kernel_rfl) (fun _ _ _ h => h) (by rfl) ?h730 (by assumption) ?_
                  case h730 => ((intro w hSw; (try dsimp only at hSw); go_simp); try with_reducible rfl)
                  (try simp only [Act.put, List.setIfInBounds_toArray, List.set_cons_succ, List.set_cons_zero])
                  refine wpAnyH_now (i := 23) (v := ?v731) rfl (by kernel_rfl) (by kernel_rfl) (by kernel_rfl) (fun _ _ _ h => h) (by rfl) ?h731 (by assumption) ?_
                  case h731 => ((intro w hSw; (try dsimp only at hSw); go_simp); try with_reducible rfl)
                  (try simp only [Act.put, List.setIfInBounds_toArray, List.set_cons_succ, List.set_cons_zero])
                  refine wpAnyH_now (i := 24) (v := ?v732) rfl (by kernel_rfl) (by kernel_rfl) (by kernel_rfl) (fun _ _ _ h => h) (by rfl) ?h732 (by assumption) ?_
                  case h732 => ((intro w hSw; (try dsimp only at hSw); go_simp); try with_reducible rfl)
                  (try simp only [Act.put, List.setIfInBounds_toArray, List.set_cons_succ, List.set_cons_zero])
                  refine wpAnyH_now (i := 25) (v := ?v733) rfl (by kernel_rfl) (by kernel_rfl) (by kernel_rfl) (fun _ _ _ h => h) (by rfl) ?h733 (by assumption) ?_
                  case h733 => ((intro w hSw; (try dsimp only at hSw); go_simp); try with_reducible rfl)
                  (try simp only [Act.put, List.setIfInBounds_toArray, List.set_cons_succ, List.set_cons_zero])
                  refine wpAnyH_now (i := 26) (v := ?v734) rfl (by kernel_rfl) (by kernel_rfl) (by kernel_rfl) (fun _ _ _ h => h) (by rfl) ?h734 (by assumption) ?_
                  case h734 => ((intro w hSw; (try dsimp only at hSw); go_simp); try with_reducible rfl)
                  (try simp only [Act.put, List.setIfInBounds_toArray, List.set_cons_succ, List.set_cons_zero])
                  refine wpAnyH_now (i := 27) (v := ?v735) rfl (by kernel_rfl) (by kernel_rfl) (by kernel_rfl) (fun _ _ _ h => h) (by rfl) ?h735 (by assumption) ?_
                  case h735 => ((intro w hSw; (try dsimp only at hSw); go_simp); try with_reducible rfl)
                  (try simp only [Act.put, List.setIfInBounds_toArray, List.set_cons_succ, List.set_cons_zero])
                  refine wpAnyH_now (i := 28) (v := ?v736) rfl (by kernel_rfl) (by kernel_rfl) (by kernel_rfl) (fun _ _ _ h => h) (by rfl) ?h736 (by assumption) ?_
                  case h736 => ((intro w hSw; (try dsimp only at hSw); go_simp); try with_reducible rfl)
                  (try simp only [Act.put, List.setIfInBounds_toArray, List.set_cons_succ, List.set_cons_zero])
                  refine wpAnyH_now (i := 29) (v := ?v737) rfl (by kernel_rfl) (by kernel_rfl) (by kernel_rfl) (fun _ _ _ h => h) (by rfl) ?h737 (by assumption) ?_
                  case h737 => ((intro w hSw; (try dsimp only at hSw); go_simp); try with_reducible rfl)
                  (try simp only [Act.put, List.setIfInBounds_toArray, List.set_cons_succ, List.set_cons_zero])
                  refine wpAnyH_now (i := 30) (v := ?v738) rfl (by kernel_rfl) (by kernel_rfl) (by kernel_rfl) (fun _ _ _ h => h) (by rfl) ?h738 (by assumption) ?_
                  case h738 => ((intro w hSw; (try dsimp only at hSw); go_simp); try with_reducible rfl)
                  (try simp only [Act.put, List.setIfInBounds_toArray, List.set_cons_succ, List.set_cons_zero])
                  refine wpAnyH_now (i := 31) (v := ?v739) rfl (by kernel_rfl) (by kernel_rfl) (by kernel_rfl) (fun _ _ _ h => h) (by rfl) ?h739 (by assumption) ?_
                  case h739 => ((intro w hSw; (try dsimp only at hSw); go_simp); try with_reducible rfl)
                  (try simp only [Act.put, List.setIfInBounds_toArray, List.set_cons_succ, List.set_cons_zero])
                  refine wpAnyH_now (i := 32) (v := ?v740) rfl (by kernel_rfl) (by kernel_rfl) (by kernel_rfl) (fun _ _ _ h => h) (by rfl) ?h740 (by assumption) ?_
                  case h740 => ((intro w hSw; (try dsimp only at hSw); go_simp); try with_reducible rfl)
                  (try simp only [Act.put, List.setIfInBounds_toArray, List.set_cons_succ, List.set_cons_zero])
                  refine wpAnyH_now (i := 33) (v := ?v741) rfl (by kernel_rfl) (by kernel_rfl) (by kernel_rfl) (fun _ _ _ h => h) (by rfl) ?h741 (by assumption) ?_
                  case h741 => ((intro w hSw; (try dsimp only at hSw); go_simp); try with_reducible rfl)
                  (try simp only [Act.put, List.setIfInBounds_toArray, List.set_cons_succ, List.set_cons_zero])
                  refine wpAnyH_now (i := 34) (v := ?v742) rfl (by kernel_rfl) (by kernel_rfl) (by kernel_rfl) (fun _ _ _ h => h) (by rfl) ?h742 (by assumption) ?_
                  case h742 => ((intro w hSw; (try dsimp only at hSw); go_simp); try with_reducible rfl)
                  (try simp only [Act.put, List.setIfInBounds_toArray, List.set_cons_succ, List.set_cons_zero])
                  refine wpAnyH_now (i := 35) (v := ?v743) rfl (by kernel_rfl) (by kernel_rfl) (by kernel_rfl) (fun _ _ _ h => h) (by rfl) ?h743 (by assumption) ?_
                  case h743 => ((intro w hSw; (try dsimp only at hSw); go_simp); try with_reducible rfl)
                  (try simp only [Act.put, List.setIfInBounds_toArray, List.set_cons_succ, List.set_cons_zero])
                  refine wpAnyH_now (i := 36) (v := ?v744) rfl (by kernel_rfl) (by kernel_rfl) (by kernel_rfl) (fun _ _ _ h => h) (by rfl) ?h744 (by assumption) ?_
                  case h744 => ((intro w hSw; (try dsimp only at hSw); go_simp); try with_reducible rfl)
                  (try simp only [Act.put, List.setIfInBounds_toArray, List.set_cons_succ, List.set_cons_zero])
                  refine wpAnyH_done (by kernel_rfl) ?_ _
                  refine NoPanic.normal ?_
                  clear hHeld hcl
                  have hfl := HK.out.len hi16
                  have hfr := HK.out.rows i
                  have hfn := HK.out.ne hi16
                  go_wp2_with fail
                  refine wp_region_noPanic ?_
                  obtain ⟨u, hu, hfz, hrow⟩ := HI4.out.row hi16
                  obtain ⟨g', c', rfl, hgl, hgc, hgm, hgx⟩ := row_form hrow hfn
                  refine region_namedZ (S := (fun W' => W'.cell? ⟨A, i, none⟩ = some (.slice (some ⟨g', 0, none⟩) (f i).length c') ∧ W'.frozen? ⟨A, i, none⟩ = false ∧ W'.cell? ⟨b, off + k * 5 + 2, none⟩ = some (.int .i64 m))) 12 (by kernel_rfl) (fun W3 HW3 => ?_)
                  have hI2 : CrS w A f [(p, keepS s i m)] W3 := by rw [HW3.out]; exact HI4.out.drew
                  have HI3 := Lib.hid hI2
                  have hal2 := hI2.alt
                  have hgl2 : g' < W3.heap.size := by rw [HW3.out]; exact hgl
                  have hS0 : ∀ W', Below W3.heap.size W3 W' → (W'.cell? ⟨A, i, none⟩ = some (.slice (some ⟨g', 0, none⟩) (f i).length c') ∧ W'.frozen? ⟨A, i, none⟩ = false ∧ W'.cell? ⟨b, off + k * 5 + 2, none⟩ = some (.int .i64 m)) := by
                    intro W' hB
                    obtain ⟨x1, x2, x3, x4, x5⟩ := HST.out W' (HI3.out.of hB).below
                    have hu2 : W3.cell? ⟨A, i, none⟩ = some (.slice (some ⟨g', 0, none⟩) (f i).length c') := by rw [HW3.out]; exact hu
                    have hf2 : W3.frozen? ⟨A, i, none⟩ = false := by rw [HW3.out]; exact hfz
                    exact ⟨((bcell hB).1 _ _ hal2).trans hu2, ((bcell hB).2 _ _ hal2).trans hf2, x3⟩
                  have HS := Lib.hid hS0
                  have hR0 : (f i).drop m ≠ [] ∧ ((f i).drop m).length ≤ 100000 ∧ (f i).length - m = ((f i).drop m).length ∧ ∀ W', Below W3.heap.size W3 W' → ∀ j y, ((f i).drop m)[j]? = some y → W'.cell? ⟨g', m + j, none⟩ = some (.string y) := by
                    refine ⟨fun e => ?_, by rw [List.length_drop]; omega, by rw [List.length_drop], fun W' hB j y hj => ((bcell hB).1 _ _ hgl2).trans ?_⟩
                    · have := congrArg List.length e
                      rw [List.length_drop] at this
                      simp at this
                      omega
                    · rw [HW3.out]
                      rw [List.getElem?_drop] at hj
                      exact hgx _ y hj
                  have HR := Lib.hid hR0
                  have hHeld := hS0 W3 (Below.refl _ _)
                  have k1 : (m : Int) ≤ ((f i).length : Int) := by omega
                  have k2 : (m : Int) ≤ (c' : Int) := by omega
                  have k3 : ((f i).length : Int) ≤ (c' : Int) := by omega
                  have k4 : ¬ m = c' := by omega
                  have k5 : ((f i).length : Int) - (m : Int) = ((((f i).drop m).length : Nat) : Int) := by have := hR0.2.2.1; omega
                  clear hu hfz hrow hgl hgc hgm hgx hfn hfr hfl hI2 hal2 hgl2 hS0 hR0
                  refine wpAnyZ_now (i := 0) (v := ?v745) rfl (by kernel_rfl) (by kernel_rfl) (by kernel_rfl) (by kernel_rfl) (fun _ _ _ h => h) (by rfl) ?h745 (by assumption) ?_
                  case h745 => ((intro w hSw; (try dsimp only at hSw); go_simp); try with_reducible rfl)
                  (try simp only [Act.put, List.setIfInBounds_toArray, List.set_cons_succ, List.set_cons_zero])
                  refine wpAnyZ_now (i := 1) (v := ?v746) rfl (by kernel_rfl) (by kernel_rfl) (by kernel_rfl) (by kernel_rfl) (fun _ _ _ h => h) (by rfl) ?h746 (by assumption) ?_
                  case h746 => ((intro w hSw; (try dsimp only at hSw); go_simp); try with_reducible rfl)
                  (try simp only [Act.put, List.setIfInBounds_toArray, List.set_cons_succ, List.set_cons_zero])
                  refine wpAnyZ_now (i := 2) (v := ?v747) rfl (by kernel_rfl) (by kernel_rfl) (by kernel_rfl) (by kernel_rfl) (fun _ _ _ h => h) (by rfl) ?h747 (by assumption) ?_
                  case h747 => ((intro w hSw; (try dsimp only at hSw); go_simp); try with_reducible rfl)
                  (try simp only [Act.put, List.setIfInBounds_toArray, List.set_cons_succ, List.set_cons_zero])
                  refine wpAnyZ_now (i := 3) (v := ?v748) rfl (by kernel_rfl) (by kernel_rfl) (by kernel_rfl) (by kernel_rfl) (fun _ _ _ h => h) (by rfl) ?h748 (by assumption) ?_
                  case h748 => ((intro w hSw; (try dsimp only at hSw); go_simp); try with_reducible rfl)
                  (try simp only [Act.put, List.setIfInBounds_toArray, List.set_cons_succ, List.set_cons_zero])
                  refine wpAnyZ_now (i := 4) (v := ?v749) rfl (by kernel_rfl) (by kernel_rfl) (by kernel_rfl) (by kernel_rfl) (fun _ _ _ h => h) (by rfl) ?h749 (by assumption) ?_
                  case h749 => ((intro w hSw; (try dsimp only at hSw); go_simp); try with_reducible rfl)
                  (try simp only [Act.put, List.setIfInBounds_toArray, List.set_cons_succ, List.set_cons_zero])
                  refine wpAnyZ_now (i := 5) (v := ?v750) rfl (by kernel_rfl) (by kernel_rfl) (by kernel_rfl) (by kernel_rfl) (fun _ _ _ h => h) (by rfl) ?h750 (by assumption) ?_
                  case h750 => ((intro w hSw; (try dsimp only at hSw); go_simp); try with_reducible rfl)
                  (try simp only [Act.put, List.setIfInBounds_toArray, List.set_cons_succ, List.set_cons_zero])
                  refine wpAnyZ_now (i := 6) (v := ?v751) rfl (by kernel_rfl) (by kernel_rfl) (by kernel_rfl) (by kernel_rfl) (fun _ _ _ h => h) (by rfl) ?h751 (by assumption) ?_
                  case h751 => ((intro w hSw; (try dsimp only at hSw); go_simp); try with_reducible rfl)
                  (try simp only [Act.put, List.setIfInBounds_toArray, List.set_cons_succ, List.set_cons_zero])
                  refine wpAnyZ_now (i := 7) (v := ?v752) rfl (by kernel_rfl) (by kernel_rfl) (by kernel_rfl) (by kernel_rfl) (fun _ _ _ h => h) (by rfl) ?h752 (by assumption) ?_
                  case h752 => ((intro w hSw; (try dsimp only at hSw); go_simp); try with_reducible rfl)
                  (try simp only [Act.put, List.setIfInBounds_toArray, List.set_cons_succ, List.set_cons_zero])
                  refine wpAnyZ_now (i := 8) (v := ?v753) rfl (by kernel_rfl) (by kernel_rfl) (by kernel_rfl) (by kernel_rfl) (fun _ _ _ h => h) (by rfl) ?h753 (by assumption) ?_
                  case h753 => ((intro w hSw; (try dsimp only at hSw); go_simp); try with_reducible rfl)
                  (try simp only [Act.put, List.setIfInBounds_toArray, List.set_cons_succ, List.set_cons_zero])
                  refine wpAnyZ_now (i := 9) (v := ?v754) rfl (by kernel_rfl) (by kernel_rfl) (by kernel_rfl) (by kernel_rfl) (fun _ _ _ h => h) (by rfl) ?h754 (by assumption) ?_
                  case h754 => ((intro w hSw; (try dsimp only at hSw); go_simp); try with_reducible rfl)
                  (try simp only [Act.put, List.setIfInBounds_toArray, List.set_cons_succ, List.set_cons_zero])
                  have k4' : ¬ c' = m := fun e => k4 e.symm
                  refine wpAnyZ_only (i := 10) (by kernel_rfl) rfl (by decide) (by rfl) (fun K hK => ?_)
                  refine append_nil_row (.const (.slice none 0 0)) (.tmp 148) rfl ((f i).drop m) g' m (c' - m) rfl (by show Value.slice (if c' = m then _ else _) _ _ = _; rw [if_neg k4', HR.out.2.2.1]) HR.out.1 HR.out.2.1 (fun j y hj => HR.out.2.2.2 _ (Below.refl W3.heap.size W3) j y hj) (fun g1 c1 wa hown hBwa => ?_)
                  refine hK.out _ _ (by exact HS.out _ hBwa) (fun hHeld => ?_)
                  clear hK K
                  (try simp only [Act.put, List.setIfInBounds_toArray, List.set_cons_succ, List.set_cons_zero])
                  refine wpAnyZ_now (i := 11) (v := ?v755) rfl (by kernel_rfl) (by kernel_rfl) (by kernel_rfl) (by kernel_rfl) (fun _ _ _ h => h) (by rfl) ?h755 (by assumption) ?_
                  case h755 => ((intro w hSw; (try dsimp only at hSw); go_simp); try with_reducible rfl)
                  (try simp only [Act.put, List.setIfInBounds_toArray, List.set_cons_succ, List.set_cons_zero])
                  refine wpAnyZ_last (by kernel_rfl) rfl (by rfl) (fun K hK => ?_)
                  have hal : A < wa.heap.size := (HI3.out.of hBwa).alt
                  have hput := HI3.out.put hBwa hown hi16
                  have hcl := HS.out _ hBwa
                  obtain ⟨q0, q1, -⟩ := hcl
                  go_simp
                  refine hK.out _ _ ?_
                  clear hK K
                  (try simp only [Act.put, List.setIfInBounds_toArray, List.set_cons_succ, List.set_cons_zero])
                  refine wpAnyZ_done (by kernel_rfl) ?_ _
                  refine NoPanic.normal ?_
                  simp only [List.length_drop] at hput
                  have HPUT := Lib.hid hput
                  clear hput hown hal q0 q1
                  go_wp2_with fail
                  go_roundw
                  case rel => exact ⟨k + 1, _, _, by omega, by go_num, HPUT.out, HK2.out⟩
                  case measure => simp [intOf]; omega
                · have HBK := Lib.hid (fun (W : World) (h : CrS w A f [(p, s)] W) => cw_back_no h HK.out xi xk hc)
                  refine region_named (S := (fun W' => W'.cell? ⟨b, off + k * 5 + 2, none⟩ = some (.int .i64 xk))) (by kernel_rfl) (fun W2 HW2 => ?_)
                  have hI2 : CrS w A f [(p, s)] W2 := by rw [HW2.out]; exact HI.out.drew
                  have HI2 := Lib.hid hI2
                  refine ⟨(HST.out W2 hI2.below).2.2.1, fun hHeld => ?_⟩
                  have HK4 := Lib.hid HK.out.more
                  clear hI2 hc
                  clear c0 c1 c2 c3 c4
                  refine wpAnyH_now (i := 0) (v := ?v756) rfl (by kernel_rfl) (by kernel_rfl) (by kernel_rfl) (fun _ _ _ h => h) (by rfl) ?h756 (by assumption) ?_
                  case h756 => ((intro w hSw; (try dsimp only at hSw); go_simp); try with_reducible rfl)
                  (try simp only [Act.put, List.setIfInBounds_toArray, List.set_cons_succ, List.set_cons_zero])
                  refine wpAnyH_now (i := 1) (v := ?v757) rfl (by kernel_rfl) (by kernel_rfl) (by kernel_rfl) (fun _ _ _ h => h) (by rfl) ?h757 (by assumption) ?_
                  case h757 => ((intro w hSw; (try dsimp only at hSw); go_simp); try with_reducible rfl)
                  (try simp only [Act.put, List.setIfInBounds_toArray, List.set_cons_succ, List.set_cons_zero])
                  refine wpAnyH_now (i := 2) (v := ?v758) rfl (by kernel_rfl) (by kernel_rfl) (by kernel_rfl) (fun _ _ _ h => h) (by rfl) ?h758 (by assumption) ?_
                  case h758 => ((intro w hSw; (try dsimp only at hSw); go_simp); try with_reducible rfl)
                  (try simp only [Act.put, List.setIfInBounds_toArray, List.set_cons_succ, List.set_cons_zero])
                  refine wpAnyH_now (i := 3) (v := ?v759) rfl (by kernel_rfl) (by kernel_rfl) (by kernel_rfl) (fun _ _ _ h => h) (by rfl) ?h759 (by assumption) ?_
                  case h759 => ((intro w hSw; (try dsimp only at hSw); go_simp); try with_reducible rfl)
                  (try simp only [Act.put, List.setIfInBounds_toArray, List.set_cons_succ, List.set_cons_zero])
                  refine wpAnyH_now (i := 4) (v := ?v760) rfl (by kernel_rfl) (by kernel_rfl) (by kernel_rfl) (fun _ _ _ h => h) (by rfl) ?h760 (by assumption) ?_
                  case h760 => ((intro w hSw; (try dsimp only at hSw); go_simp); try with_reducible rfl)
                  (try simp only [Act.put, List.setIfInBounds_toArray, List.set_cons_succ, List.set_cons_zero])
                  refine wpAnyH_now (i := 5) (v := ?v761) rfl (by kernel_rfl) (by kernel_rfl) (by kernel_rfl) (fun _ _ _ h => h) (by rfl) ?h761 (by assumption) ?_
                  case h761 => ((intro w hSw; (try dsimp only at hSw); go_simp); try with_reducible rfl)
                  (try simp only [Act.put, List.setIfInBounds_toArray, List.set_cons_succ, List.set_cons_zero])
                  refine wpAnyH_now (i := 6) (v := ?v762) rfl (by kernel_rfl) (by kernel_rfl) (by kernel_rfl) (fun _ _ _ h => h) (by rfl) ?h762 (by assumption) ?_
                  case h762 => ((intro w hSw; (try dsimp only at hSw); go_simp); try with_reducible rfl)
                  (try simp only [Act.put, List.setIfInBounds_toArray, List.set_cons_succ, List.set_cons_zero])
                  refine wpAnyH_only (i := 7) (by kernel_rfl) rfl (by rfl) (fun K hK => ?_)
                  go_simp
                  refine (HBK.out _ HI2.out).mono ?_
                  rintro e w4 ⟨r, rfl, hr0, rfl⟩
                  refine hK.out _ _ (by exact hHeld) (fun hHeld => ?_)
                  clear hK K
                  (try simp only [Act.put, List.setIfInBounds_toArray, List.set_cons_succ, List.set_cons_zero])
                  refine wpAnyH_now (i := 8) (v := ?v763) rfl (by kernel_rfl) (by kernel_rfl) (by kernel_rfl) (fun _ _ _ h => h) (by rfl) ?h763 (by assumption) ?_
                  case h763 => ((intro w hSw; (try dsimp only at hSw); go_simp); try with_reducible rfl)
                  (try simp only [Act.put, List.setIfInBounds_toArray, List.set_cons_succ, List.set_cons_zero])
                  refine wpAnyH_now (i := 9) (v := ?v764) rfl (by kernel_rfl) (by kernel_rfl) (by kernel_rfl) (fun _ _ _ h => h) (by rfl) ?h764 (by assumption) ?_
                  case h764 => ((intro w hSw; (try dsimp only at hSw); go_simp); try with_reducible rfl)
                  (try simp only [Act.put, List.setIfInBounds_toArray, List.set_cons_succ, List.set_cons_zero])
                  refine wpAnyH_skip (i := 10) rfl (by kernel_rfl) (by kernel_rfl) (by kernel_rfl) (fun _ _ _ h => h) (by rfl) (by assumption) ?_
                  (try simp only [Act.put, List.setIfInBounds_toArray, List.set_cons_succ, List.set_cons_zero])
                  refine wpAnyH_skip (i := 11) rfl (by kernel_rfl) (by kernel_rfl) (by kernel_rfl) (fun _ _ _ h => h) (by rfl) (by assumption) ?_
                  (try simp only [Act.put, List.setIfInBounds_toArray, List.set_cons_succ, List.set_cons_zero])
                  refine wpAnyH_now (i := 12) (v := ?v765) rfl (by kernel_rfl) (by kernel_rfl) (by kernel_rfl) (fun _ _ _ h => h) (by rfl) ?h765 (by assumption) ?_
                  case h765 => ((intro w hSw; (try dsimp only at hSw); go_simp); try with_reducible rfl)
                  (try simp only [Act.put, List.setIfInBounds_toArray, List.set_cons_succ, List.set_cons_zero])
                  refine wpAnyH_now (i := 13) (v := ?v766) rfl (by kernel_rfl) (by kernel_rfl) (by kernel_rfl) (fun _ _ _ h => h) (by rfl) ?h766 (by assumption) ?_
                  case h766 => ((intro w hSw; (try dsimp only at hSw); go_simp); try with_reducible rfl)
                  (try simp only [Act.put, List.setIfInBounds_toArray, List.set_cons_succ, List.set_cons_zero])
                  refine wpAnyH_skip (i := 14) rfl (by kernel_rfl) (by kernel_rfl) (by kernel_rfl) (fun _ _ _ h => h) (by rfl) (by assumption) ?_
                  (try simp only [Act.put, List.setIfInBounds_toArray, List.set_cons_succ, List.set_cons_zero])
                  refine wpAnyH_skip (i := 15) rfl (by kernel_rfl) (by kernel_rfl) (by kernel_rfl) (fun _ _ _ h => h) (by rfl) (by assumption) ?_
                  (try simp only [Act.put, List.setIfInBounds_toArray, List.set_cons_succ, List.set_cons_zero])
                  refine wpAnyH_now (i := 16) (v := ?v767) rfl (by kernel_rfl) (by kernel_rfl) (by kernel_rfl) (fun _ _ _ h => h) (by rfl) ?h767 (by assumption) ?_
                  case h767 => ((intro w hSw; (try dsimp only at hSw); go_simp); try with_reducible rfl)
                  (try simp only [Act.put, List.setIfInBounds_toArray, List.set_cons_succ, List.set_cons_zero])
                  refine wpAnyH_now (i := 17) (v := ?v768) rfl (by kernel_rfl) (by kernel_rfl) (by kernel_rfl) (fun _ _ _ h => h) (by rfl) ?h768 (by assumption) ?_
                  case h768 => ((intro w hSw; (try dsimp only at hSw); go_simp); try with_reducible rfl)
                  (try simp only [Act.put, List.setIfInBounds_toArray, List.set_cons_succ, List.set_cons_zero])
                  refine wpAnyH_skip (i := 18) rfl (by kernel_rfl) (by kernel_rfl) (by kernel_rfl) (fun _ _ _ h => h) (by rfl) (by assumption) ?_
                  (try simp only [Act.put, List.setIfInBounds_toArray, List.set_cons_succ, List.set_cons_zero])
                  refine wpAnyH_skip (i := 19) rfl (by kernel_rfl) (by kernel_rfl) (by kernel_rfl) (fun _ _ _ h => h) (by rfl) (by assumption) ?_
                  (try simp only [Act.put, List.setIfInBounds_toArray, List.set_cons_succ, List.set_cons_zero])
                  refine wpAnyH_skip (i := 20) rfl (by kernel_rfl) (by kernel_rfl) (by kernel_rfl) (fun _ _ _ h => h) (by rfl) (by assumption) ?_
                  (try simp only [Act.put, List.setIfInBounds_toArray, List.set_cons_succ, List.set_cons_zero])
                  refine wpAnyH_skip (i := 21) rfl (by kernel_rfl) (by kernel_rfl) (by kernel_rfl) (fun _ _ _ h => h) (by rfl) (by assumption) ?_
                  (try simp only [Act.put, List.setIfInBounds_toArray, List.set_cons_succ, List.set_cons_zero])
                  refine wpAnyH_skip (i := 22) rfl (by kernel_rfl) (by kernel_rfl) (by kernel_rfl) (fun _ _ _ h => h) (by rfl) (by assumption) ?_
                  (try simp only [Act.put, List.setIfInBounds_toArray, List.set_cons_succ, List.set_cons_zero])
                  refine wpAnyH_skip (i := 23) rfl (by kernel_rfl) (by kernel_rfl) (by kernel_rfl) (fun _ _ _ h => h) (by rfl) (by assumption) ?_
                  (try simp only [Act.put, List.setIfInBounds_toArray, List.set_cons_succ, List.set_cons_zero])
                  refine wpAnyH_now (i := 24) (v := ?v769) rfl (by kernel_rfl) (by kernel_rfl) (by kernel_rfl) (fun _ _ _ h => h) (by rfl) ?h769 (by assumption) ?_
                  case h769 => ((intro w hSw; (try dsimp only at hSw); go_simp); try with_reducible rfl)
                  (try simp only [Act.put, List.setIfInBounds_toArray, List.set_cons_succ, List.set_cons_zero])
                  refine wpAnyH_now (i := 25) (v := ?v770) rfl (by kernel_rfl) (by kernel_rfl) (by kernel_rfl) (fun _ _ _ h => h) (by rfl) ?h770 (by assumption) ?_
                  case h770 => ((intro w hSw; (try dsimp only at hSw); go_simp); try with_reducible rfl)
                  (try simp only [Act.put, List.setIfInBounds_toArray, List.set_cons_succ, List.set_cons_zero])
                  refine wpAnyH_skip (i := 26) rfl (by kernel_rfl) (by kernel_rfl) (by kernel_rfl) (fun _ _ _ h => h) (by rfl) (by assumption) ?_
                  (try simp only [Act.put, List.setIfInBounds_toArray, List.set_cons_succ, List.set_cons_zero])
                  refine wpAnyH_skip (i := 27) rfl (by kernel_rfl) (by kernel_rfl) (by kernel_rfl) (fun _ _ _ h => h) (by rfl) (by assumption) ?_
                  (try simp only [Act.put, List.setIfInBounds_toArray, List.set_cons_succ, List.set_cons_zero])
                  refine wpAnyH_skip (i := 28) rfl (by kernel_rfl) (by kernel_rfl) (by kernel_rfl) (fun _ _ _ h => h) (by rfl) (by assumption) ?_
                  (try simp only [Act.put, List.setIfInBounds_toArray, List.set_cons_succ, List.set_cons_zero])
                  refine wpAnyH_skip (i := 29) rfl (by kernel_rfl) (by kernel_rfl) (by kernel_rfl) (fun _ _ _ h => h) (by rfl) (by assumption) ?_
                  (try simp only [Act.put, List.setIfInBounds_toArray, List.set_cons_succ, List.set_cons_zero])
                  refine wpAnyH_skip (i := 30) rfl (by kernel_rfl) (by kernel_rfl) (by kernel_rfl) (fun _ _ _ h => h) (by rfl) (by assumption) ?_
                  (try simp only [Act.put, List.setIfInBounds_toArray, List.set_cons_succ, List.set_cons_zero])
                  refine wpAnyH_skip (i := 31) rfl (by kernel_rfl) (by kernel_rfl) (by kernel_rfl) (fun _ _ _ h => h) (by rfl) (by assumption) ?_
                  (try simp only [Act.put, List.setIfInBounds_toArray, List.set_cons_succ, List.set_cons_zero])
                  refine wpAnyH_skip (i := 32) rfl (by kernel_rfl) (by kernel_rfl) (by kernel_rfl) (fun _ _ _ h => h) (by rfl) (by assumption) ?_
                  (try simp only [Act.put, List.setIfInBounds_toArray, List.set_cons_succ, List.set_cons_zero])
                  refine wpAnyH_skip (i := 33) rfl (by kernel_rfl) (by kernel_rfl) (by kernel_rfl) (fun _ _ _ h => h) (by rfl) (by assumption) ?_
                  (try simp only [Act.put, List.setIfInBounds_toArray, List.set_cons_succ, List.set_cons_zero])
                  refine wpAnyH_skip (i := 34) rfl (by kernel_rfl) (by kernel_rfl) (by kernel_rfl) (fun _ _ _ h => h) (by rfl) (by assumption) ?_
                  (try simp only [Act.put, List.setIfInBounds_toArray, List.set_cons_succ, List.set_cons_zero])
                  refine wpAnyH_skip (i := 35) rfl (by kernel_rfl) (by kernel_rfl) (by kernel_rfl) (fun _ _ _ h => h) (by rfl) (by assumption) ?_
                  (try simp only [Act.put, List.setIfInBounds_toArray, List.set_cons_succ, List.set_cons_zero])
                  refine wpAnyH_now (i := 36) (v := ?v771) rfl (by kernel_rfl) (by kernel_rfl) (by kernel_rfl) (fun _ _ _ h => h) (by rfl) ?h771 (by assumption) ?_
                  case h771 => ((intro w hSw; (try dsimp only at hSw); go_simp); try with_reducible rfl)
                  (try simp only [Act.put, List.setIfInBounds_toArray, List.set_cons_succ, List.set_cons_zero])
                  refine wpAnyH_done (by kernel_rfl) ?_ _
                  refine NoPanic.normal ?_
                  go_wp2_with fail
                  go_roundw
                  case rel => exact ⟨k + 1, _, _, by omega, by go_num, HI2.out, HK4.out⟩
                  case measure => simp [intOf]; omega
              · have e1 : (xo == 1) = false := by simpa using h1
                by_cases h3 : xo = 3
                · subst h3
                  clear e0 e1 h0 h1
                  go_wp2_with fail
                  refine (cw_fuse HI.out HK.out _ WX.out.2.2.1).mono ?_
                  rintro e w4 ⟨r, s', rfl, hI4, hK4⟩
                  have HI4 := Lib.hid hI4
                  have HK4 := Lib.hid hK4
                  clear hI4 hK4
                  go_wp2_with fail
                  go_roundw
                  case rel => exact ⟨k + 1, _, _, by omega, by go_num, HI4.out, HK4.out⟩
                  case measure => simp [intOf]; omega
                · have e3 : (xo == 3) = false := by simpa using h3
                  have HK4 := Lib.hid HK.out.more
                  go_wp2_with fail
                  go_roundw
                  case rel => exact ⟨k + 1, _, _, by omega, by go_num, HI.out, HK4.out⟩
                  case measure => simp [intOf]; omega
          · have dl : decide ((k : Int) < (ls.length : Int)) = false := decide_eq_false (by omega)
            have hk150 : k ≤ 150 := by omega
            have hrw : ∀ j, (s.rows j).length ≤ 100000 := fun j => Nat.le_trans (hK.rows j) (by omega)
            have hll := looseOf_len s
            rw [hK.hard] at hll
            clear HK HI
            have HK := Lib.hid hK
            have HI := Lib.hid hI
            have HRW := Lib.hid hrw
            have HH := hK.hard
            have HH := Lib.hid HH
            clear hK hI hrw
            go_wp2_with fail
            clear dl
            refine (cr_copy HI.out (j := 0) rfl HRW.out).mono ?_
            rintro e w4 ⟨p1, rfl, hI1⟩
            go_wp2_with fail
            refine (cr_copy hI1 (j := 0) rfl HRW.out).mono ?_
            rintro e w5 ⟨p2, rfl, hI2⟩
            go_wp2_with fail
            refine (cr_copy hI2 (j := 0) rfl HRW.out).mono ?_
            rintro e w6 ⟨p3, rfl, hI3⟩
            have hI4 : CrS w A f [(p, s), (p1, s), (p2, s), (p3, s)] w6 := hI3
            have HI4 := Lib.hid hI4
            clear hI1 hI2 hI3 hI4
            go_wp2_with fail
            refine (cw_loose HI4.out (j := 0) rfl).mono ?_
            rintro e w7 ⟨lv, rfl, hown, hI7⟩
            obtain ⟨lp, lc, rfl, hlc⟩ := ints_form hown
            have HLC := Lib.hid hlc
            have H7 := Lib.hid hI7
            clear hI7 hown hlc
            obtain ⟨l, hl⟩ : ∃ l, looseOf s = l := ⟨_, rfl⟩
            rw [hl] at hll HLC ⊢
            have HL := Lib.hid hl
            clear hl
            obtain ⟨wo, rfl⟩ : ∃ wo : World, wo = wr := ⟨_, rfl⟩
            go_wp2_with fail
            go_loopw [14, 16] (fun v14 v16 wr => ∃ (n : Nat) (X : ByteArray), n ≤ l.length ∧ v16 = .int .i64 n ∧ v14 = .string X ∧ Hid (X = bs ((l.take n).map (fun i => UInt8.ofNat (s.rows i).length))) ∧ X.size = n ∧ Below w7.heap.size w7 wr) (fun _ v16 _ => l.length - (intOf v16).toNat)
            case atStart => exact ⟨0, ⟨#[]⟩, by omega, rfl, rfl, rfl, rfl, Below.refl _ _⟩
            case round =>
              obtain ⟨n, X, hn, rfl, rfl, HX, hXs, hB⟩ := hrel
              by_cases hlt : n < l.length
              · have dl2 : decide ((n : Int) < (l.length : Int)) = true := decide_eq_true (by omega)
                obtain ⟨g, rfl, hgl, hc⟩ := HLC.out n l[n] (List.getElem?_eq_getElem hlt)
                have hc2 : wr.cell? ⟨g, n, none⟩ = some (.int .i64 l[n]) := ((bcell hB).1 _ _ hgl).trans hc
                clear hc
                have hcc := cw_cached (H7.out.of hB) (j := 0) rfl l[n]
                have hq150 : (s.rows l[n]).length ≤ 150 := Nat.le_trans (HK.out.rows _) hk150
                have HX2 : Hid (bs ((l.take (n + 1)).map (fun i => UInt8.ofNat (s.rows i).length)) = X ++ bs [UInt8.ofNat (s.rows l[n]).length]) := by
                  show _ = _
                  rw [HX.out, bs_append, List.take_succ_eq_append_getElem hlt, List.map_append]
                  rfl
                obtain ⟨q, hq⟩ : ∃ q : Nat, (s.rows l[n]).length = q := ⟨_, rfl⟩
                rw [hq] at hcc hq150 HX2
                clear hq
                generalize l[n] = i at *
                have hcv := fun W => conv_new [UInt8.ofNat q] 1 rfl W
                rw [bc_one q hq150] at hcv
                have hys : (bs [UInt8.ofNat q]).size = 1 := bs_size _
                generalize bs [UInt8.ofNat q] = Y at *
                have hwq : IntKind.u8.wrap (q : Int) = q := by rw [IntKind.wrap_u8]; omega
                have hsum : ¬ (9223372036854775807 < X.size + Y.size) := by omega
                have HXS := Lib.hid hXs
                have HYS := Lib.hid hys
                clear hXs hys
                go_wp2_with fail
                refine hcc.mono ?_
                rintro e w8 ⟨rfl, rfl⟩
                go_wp2_with fail
                go_roundw
                case rel => exact ⟨n + 1, _, by omega, by go_num, rfl, HX2.out.symm, by rw [ByteArray.size_append, HXS.out, HYS.out], bal hB _⟩
                case measure => simp [intOf]; omega
              · have dl2 : decide ((n : Int) < (l.length : Int)) = false := decide_eq_false (by omega)
                have hXe : X = bs ((looseOf s).map (fun i => UInt8.ofNat (s.rows i).length)) := by
                  rw [HX.out, HL.out, List.take_of_length_le (by omega)]
                have HXE := Lib.hid hXe
                have H8 := Lib.hid (H7.out.of hB)
                clear hXe HX hXs hB
                go_wp2_with fail
                refine (cw_crash H8.out (j := 1) rfl HRW.out _).mono ?_
                rintro e w9 ⟨rfl, hI9⟩
                have hI9 : CrS w A f [(p, s), (p1, crashS ⟨#[]⟩ s), (p2, s), (p3, s)] w9 := hI9
                go_wp2_with fail
                refine (cw_crash hI9 (j := 2) rfl HRW.out _).mono ?_
                rintro e w10 ⟨rfl, hI10⟩
                have hI10 : CrS w A f [(p, s), (p1, crashS ⟨#[]⟩ s), (p2, crashS X s), (p3, s)] w10 := hI10
                clear hI9
                go_wp2_with fail
                refine (cw_crash hI10 (j := 3) rfl HRW.out keep).mono ?_
                rintro e w11 ⟨rfl, hI11⟩
                have hI12 : CrS w A f [(p, s), (p1, crashS ⟨#[]⟩ s), (p2, crashS X s), (p3, crashS keep s)] w11 := hI11
                clear hI10 hI11
                have R1 := Lib.hid (fun j hj => crash_none HK.out j hj)
                have R2 := Lib.hid (fun j hj => crash_full HK.out hk150 j hj X HXE.out)
                have R3 := Lib.hid (fun j hj => crash_some HK.out keep j hj)
                have hd1 : (crashS ⟨#[]⟩ s).dead = false := rfl
                have hd2 : (crashS X s).dead = false := rfl
                have hd3 : (crashS keep s).dead = false := rfl
                have hh1 : (crashS ⟨#[]⟩ s).hard.length = 16 := (crashS_hard _ s).trans HH.out
                have hh2 : (crashS X s).hard.length = 16 := (crashS_hard _ s).trans HH.out
                have hh3 : (crashS keep s).hard.length = 16 := (crashS_hard _ s).trans HH.out
                have hl1 : looseOf (crashS ⟨#[]⟩ s) = [] := crash_loose HK.out _
                have hlf : (crashS keep s).left = 0 := rfl
                have hwr : (crashS keep s).writes = s.writes := crW keep s
                have hw0 := HK.out.w0
                have hw1 := HK.out.w1
                have hr3 : ((crashS keep s).rows ((0 : Nat) : Int)).length < 100000 := Nat.lt_of_le_of_lt (Nat.le_trans (crashS_rows keep s _) (HK.out.rows _)) (by omega)
                generalize crashS ⟨#[]⟩ s = s1 at *
                generalize crashS X s = s2 at *
                generalize crashS keep s = s3 at *
                have HF := Lib.hid (And.intro hd1 (And.intro hd2 (And.intro hd3 (And.intro hh1 (And.intro hh2 hh3)))))
                have HW := Lib.hid (And.intro hl1 (And.intro hlf (And.intro hwr (And.intro hw0 (And.intro hw1 hr3)))))
                have H12 := Lib.hid hI12
                clear hd1 hd2 hd3 hh1 hh2 hh3 hl1 hlf hwr hw0 hw1 hr3 hI12 HXE HLC H7 H8
                obtain ⟨wp, rfl⟩ : ∃ wp : World, wp = wr := ⟨_, rfl⟩
                go_wp2_with fail
                go_loopw [17] (fun v17 wr => ∃ n : Nat, n ≤ 16 ∧ v17 = .int .i64 n ∧ CrS w A f [(p, s), (p1, s1), (p2, s2), (p3, s3)] wr) (fun v17 _ => 16 - (intOf v17).toNat)
                case atStart => exact ⟨0, by omega, rfl, H12.out⟩
                case round =>
                  obtain ⟨n, hn, rfl, hI⟩ := hrel
                  have HI := Lib.hid hI
                  clear hI
                  by_cases hlt : n < 16
                  · have dl3 : decide ((n : Int) < 16) = true := decide_eq_true (by omega)
                    obtain ⟨c, hc, r3⟩ := R3.out n hlt
                    have r1 := R1.out n hlt
                    have r2 := R2.out n hlt
                    have hfn := HK.out.ne hlt
                    have hfl := HK.out.len hlt
                    have hfr := HK.out.rows n
                    obtain ⟨m, hm⟩ : ∃ m, (f n).length = m + 1 := ⟨_, hfl⟩
                    have hml : (f n).length - 1 = m := by omega
                    rw [hml] at r2
                    obtain ⟨a0, ha0⟩ : ∃ a0, (f n).getD 0 ByteArray.empty = a0 := ⟨_, rfl⟩
                    obtain ⟨al, hal⟩ : ∃ al, (f n).getD m ByteArray.empty = al := ⟨_, rfl⟩
                    obtain ⟨ac, hac⟩ : ∃ ac, (f n).getD c ByteArray.empty = ac := ⟨_, rfl⟩
                    rw [ha0] at r1
                    rw [hal] at r2
                    rw [hac] at r3
                    have q1 := fun W (h : CrS w A f [(p, s), (p1, s1), (p2, s2), (p3, s3)] W) => cw_read h (j := 1) rfl HF.out.1 HF.out.2.2.2.1 n hlt _ r1
                    have q2 := fun W (h : CrS w A f [(p, s), (p1, s1), (p2, s2), (p3, s3)] W) => cw_read h (j := 2) rfl HF.out.2.1 HF.out.2.2.2.2.1 n hlt _ r2
                    have q3 := fun W (h : CrS w A f [(p, s), (p1, s1), (p2, s2), (p3, s3)] W) => cw_read h (j := 3) rfl HF.out.2.2.1 HF.out.2.2.2.2.2 n hlt _ r3
                    have Q1 := Lib.hid q1
                    have Q2 := Lib.hid q2
                    have Q3 := Lib.hid q3
                    clear q1 q2 q3 r1 r2 r3
                    go_wp2_with fail
                    refine (Q1.out _ HI.out).mono ?_
                    rintro e w12 ⟨rfl, hI2⟩
                    go_wp2_with fail
                    refine (Q2.out _ hI2).mono ?_
                    rintro e w13 ⟨rfl, hI3⟩
                    go_wp2_with fail
                    refine (Q3.out _ hI3).mono ?_
                    rintro e w14 ⟨rfl, hI4⟩
                    obtain ⟨u, hu, hfz, hrow⟩ := hI4.row hlt
                    obtain ⟨g, c', rfl, hgl, hgc, hgm, hgx⟩ := row_form hrow hfn
                    have hx : ∀ j, j < m + 1 → w14.cell? ⟨g, j, none⟩ = some (.string ((f n).getD j ByteArray.empty)) := fun j hj => hgx j _ (by rw [List.getD_eq_getElem?_getD, List.getElem?_eq_getElem (by omega), Option.getD_some])
                    have x0 := hx 0 (by omega)
                    have xl := hx m (by omega)
                    rw [ha0] at x0
                    rw [hal] at xl
                    have HXX := Lib.hid hx
                    rw [hm] at hu hgc
                    have hm150 : m ≤ 150 := by omega
                    have m1 : ((m + 1 : Nat) : Int) - 1 = (m : Int) := by omega
                    have dm : decide (((m + 1 : Nat) : Int) < 250) = true := decide_eq_true (by omega)
                    have HI4 := Lib.hid hI4
                    have hcm : c < m + 1 := by omega
                    have HAC := Lib.hid hac
                    clear hI2 hI3 hI4 Q1 Q2 Q3 hx hgx hrow hfn hfl hfr hml hc hm ha0 hal hac
                    go_wp2_with fail
                    go_quiet (fail)
                    go_wp2_with fail
                    obtain ⟨wq, hwq⟩ : ∃ wq, w14.drewN nq = wq := ⟨_, rfl⟩
                    have hI5 : CrS w A f [(p, s), (p1, s1), (p2, s2), (p3, s3)] wq := by rw [← hwq]; exact HI4.out.of ⟨rfl, rfl, rfl, Nat.le_refl _, fun _ _ => rfl⟩
                    have hu5 : wq.cell? ⟨A, n, none⟩ = some (.slice (some ⟨g, 0, none⟩) (m + 1) c') := by rw [← hwq]; exact hu
                    have hx5 : ∀ j, j < m + 1 → wq.cell? ⟨g, j, none⟩ = some (.string ((f n).getD j ByteArray.empty)) := by rw [← hwq]; exact HXX.out
                    have HI5 := Lib.hid hI5
                    have HX5 := Lib.hid hx5
                    rw [hwq]
                    clear hwq hI5 hx5 hu x0 xl HXX hgl HI4 dm m1 hfz
                    go_loop [24, 25] (fun v24 v25 => ∃ (k : Nat) (b : Bool), k ≤ m + 1 ∧ v25 = .int .i64 k ∧ v24 = .bool b ∧ (c < k → b = true)) (fun _ v25 => m + 1 - (intOf v25).toNat)
                    case atStart => exact ⟨0, false, by omega, rfl, rfl, fun h => absurd h (by omega)⟩
                    case round =>
                      obtain ⟨j, b, hj, rfl, rfl, hb⟩ := hrel
                      have HB := Lib.hid hb
                      clear hb
                      by_cases hlt2 : j < m + 1
                      · have dl4 : decide ((j : Int) < ((m + 1 : Nat) : Int)) = true := decide_eq_true (by omega)
                        have dl5 : decide ((j : Int) < (m : Int) + 1) = true := decide_eq_true (by omega)
                        cases b
                        · have xj := HX5.out j hlt2
                          obtain ⟨xk, hxk⟩ : ∃ xk, (f n).getD j ByteArray.empty = xk := ⟨_, rfl⟩
                          rw [hxk] at xj
                          have HXK := Lib.hid hxk
                          clear hxk
                          by_cases he : xk = ac
                          · subst he
                            go_wp2_with fail
                            go_round
                            case rel => exact ⟨j + 1, true, by omega, by go_num, rfl, fun _ => rfl⟩
                            case measure => simp [intOf]; omega
                          · have he2 : (xk.toList == ac.toList) = false := toList_ne he
                            go_wp2_with fail
                            go_round
                            case rel =>
                              refine ⟨j + 1, false, by omega, by go_num, rfl, fun h => ?_⟩
                              rcases Nat.lt_or_ge c j with h1 | h1
                              · exact HB.out h1
                              · obtain rfl : c = j := by omega
                                exact absurd (HXK.out.symm.trans HAC.out) he
                            case measure => simp [intOf]; omega
                        · go_wp2_with fail
                          go_round
                          case rel => exact ⟨j + 1, true, by omega, by go_num, rfl, fun _ => rfl⟩
                          case measure => simp [intOf]; omega
                      · have dl4 : decide ((j : Int) < ((m + 1 : Nat) : Int)) = false := decide_eq_false (by omega)
                        have dl5 : decide ((j : Int) < (m : Int) + 1) = false := decide_eq_false (by omega)
                        obtain rfl : b = true := HB.out (by omega)
                        go_wp2_with fail
                        go_roundw
                        case rel => exact ⟨n + 1, by omega, by go_num, HI5.out⟩
                        case measure => simp [intOf]; omega
                  · have dl3 : decide ((n : Int) < 16) = false := decide_eq_false (by omega)
                    have hzs := sector_any ⟨#[111, 110]⟩
                    have hz64 := sec_size ⟨#[111, 110]⟩
                    generalize sec ⟨#[111, 110]⟩ = sx at *
                    obtain ⟨y1, y2, y3, y4, y5, y6⟩ := HW.out
                    clear HW
                    go_wp2_with fail
                    refine (hzs _).mono ?_
                    rintro e w15 ⟨rfl, hB15⟩
                    have hI15 := HI.out.of hB15
                    obtain ⟨X3, hv3, hXA, hs3⟩ := hI15.lens (j := 3) rfl
                    have hwr3 := o_write hv3 HF.out.2.2.1 0 (by rw [HF.out.2.2.2.2.2]; decide) sx hz64 y6 (u64_small (by omega) (by omega)) (i64_id (by omega) (by omega))
                    have HS3 := Lib.hid hs3
                    clear hs3 hv3 hI15 hB15 y2 y3 y4 y5 y6 hXA hzs
                    go_wp2_with fail
                    refine hwr3.mono ?_
                    rintro e w16 ⟨rfl, g1, g2⟩
                    have hI16 : CrS w A f [(p, s), (p1, s1), (p2, s2), (p3, wrS s3 0 sx)] w16 := HS3.out _ _ g1 g2
                    clear g1 g2
                    go_wp2_with fail
                    refine (cw_loose hI16 (j := 1) rfl).mono ?_
                    rintro e w17 ⟨lv2, rfl, hown2, hI17⟩
                    obtain ⟨lp2, lc2, rfl, -⟩ := ints_form hown2
                    rw [y1]
                    clear hown2
                    have HI17 := Lib.hid hI17
                    clear hI17 hI16
                    go_wp2_with fail
                    refine (alive03_any _).mono ?_
                    rintro e w18 ⟨rfl, hB18⟩
                    go_wp2_with fail
                    go_ret
                    exact ⟨rfl, (HI17.out.of hB18).below⟩
end Go.Proofs.Ytjjphcnoegaimaa
