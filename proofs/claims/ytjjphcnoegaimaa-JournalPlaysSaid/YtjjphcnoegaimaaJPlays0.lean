/- What JournalPlays asks besides: steps that come in, many, May, what no journal answers, Open refused, how many writes. -/
import Derived.Test.YtjjphcnoegaimaaJSure
namespace Go.Proofs.Ytjjphcnoegaimaa
open Go.RowKit Go.Shelf Go.Maps Go.ChangeShapes Go.WideShapes Go.Deep
set_option maxRecDepth 20000
set_option linter.unusedVariables false

theorem runO_writes : ∀ (l : List DOp) (s : DS), s.writes ≤ (runO s l).1.writes ∧ (runO s l).1.writes ≤ s.writes + wcount l
  | [], s => ⟨Int.le_refl _, by simp [runO, wcount]⟩
  | o :: l, s => by
    unfold runO
    split
    · exact ⟨Int.le_refl _, by show s.writes ≤ s.writes + _; omega⟩
    · obtain ⟨a, b⟩ := runO_writes l (o.on s)
      cases o with
      | wr i x =>
        have e : (DOp.on s (.wr i x)).writes = s.writes + 1 := rfl
        rw [e] at a b
        refine ⟨by omega, ?_⟩
        simp only [wcount]
        push_cast
        omega
      | fl =>
        have e : (DOp.on s .fl).writes = s.writes := (flush_idle s).2.2.2
        rw [e] at a b
        exact ⟨a, b⟩

theorem open_puts_core {H : Type} {enc : TypeId × Value → H} {w : World} {base : Nat} {held : Bool} {spare : Nat → Bool} {v : Value} {fuel : Nat} {x : DataW H × List MemPlace}
    (hf : DataW.trod enc Try.prog w base spare held fuel 52 [v] = some x) : ∃ ls, SlP w (fun _ => False) w v ls ∧ (v = .slice none 0 0 ∨ ∃ ad c, v = .slice (some ad) ls.length c) := by
  rcases open_slice_fields Try.underlying52 Try.underlying76 (by kernel_rfl) (by kernel_rfl) hf with ⟨h1, h2⟩ | ⟨a, len, cap, m, D, Pl, hv, hb, hl, hm, hmm, hx, hfs⟩
  · have : v = Value.slice none 0 0 := by simpa using h1
    subst this
    exact ⟨[], ⟨_, _, rfl, fun h => absurd h (by simp)⟩, .inl rfl⟩
  · have : v = Value.slice (some a) len cap := by simpa using hv
    subst this
    have hln : len ≤ m := by rw [hmm]; split <;> omega
    have hone : ∀ i, ∃ s : PutZ, i < len → (w.cell? (a.add (i * 2)) = some (.int .i64 s.1) ∧ w.cell? (a.add (i * 2 + 1)) = some (.string s.2)) := by
      intro i
      by_cases hi : i < len
      · obtain ⟨ys, k, _, _, _, hg⟩ := hfs i (by omega)
        obtain ⟨v0, y0, c0, _, t0⟩ := hg 0 _ rfl
        obtain ⟨v1, y1, c1, _, t1⟩ := hg 1 _ rfl
        obtain ⟨n0, e0, _, w0⟩ := DataW.trod_int Try.underlying3 t0
        obtain ⟨n1, e1, _, w1⟩ := DataW.trod_string Try.underlying9 t1
        simp only [List.cons.injEq, and_true] at e0 e1
        subst e0 e1
        exact ⟨(n0, n1), fun _ => ⟨c0, c1⟩⟩
      · exact ⟨(0, ByteArray.empty), fun h => absurd h hi⟩
    obtain ⟨f, hfn⟩ := Classical.axiomOfChoice hone
    have hg : ∀ i, i < len → ((List.range len).map f).getD i (0, ByteArray.empty) = f i := fun i hi => by simp [List.getD_eq_getElem?_getD, hi]
    refine ⟨(List.range len).map f, ⟨some a, cap, by simp, fun h => ?_⟩, .inr ⟨a, cap, by simp⟩⟩
    simp at h
    obtain ⟨b, off, rfl⟩ := addr_plain (hfn 0 h).1
    refine ⟨b, off, rfl, .inl (lt_of_cell' (hfn 0 h).1), fun i hi => ?_⟩
    simp at hi
    rw [hg i hi]
    have h4 := hfn i hi
    simpa only [Go.WideShapes.add_plain, Nat.add_assoc] using h4

/-- A step of the journal's law. -/
structure St4 where
  crash : Bool
  keep : ByteArray
  lv : Value
  l : List PutZ
def st40 : St4 := ⟨false, ByteArray.empty, .slice none 0 0, []⟩
structure Sl4 (W : World) (v : Value) (ls : List St4) : Prop where
  val : ∃ ao cap, v = .slice ao ls.length cap ∧ (0 < ls.length → ∃ b off, ao = some ⟨b, off, none⟩ ∧ b < W.heap.size ∧ ∀ i, i < ls.length → W.cell? ⟨b, off + i * 3, none⟩ = some (.bool (ls.getD i st40).crash) ∧ W.cell? ⟨b, off + i * 3 + 1, none⟩ = some (.string (ls.getD i st40).keep) ∧ W.cell? ⟨b, off + i * 3 + 2, none⟩ = some (ls.getD i st40).lv)
  puts : ∀ x ∈ ls, SlP W (fun _ => False) W x.lv x.l ∧ (x.lv = .slice none 0 0 ∨ ∃ ad c, x.lv = .slice (some ad) x.l.length c)
theorem open_steps4 {H : Type} {enc : TypeId × Value → H} {w : World} {base : Nat} {held : Bool} {spare : Nat → Bool} {v : Value} {d : DataW H} {ps : List MemPlace}
    {r : Reach} {b0 : Nat} (hval : Value.okWide Try.prog w r b0 62 v) (hd : DataW.Trod enc Try.prog w base spare held 62 v d ps) : ∃ ls, Sl4 w v ls := by
  obtain ⟨fuel, hf⟩ := hd
  obtain ⟨ao, n, c, hv⟩ : ∃ ao n c, v = .slice ao n c := okWide_slice Try.underlying62 hval
  subst hv
  rcases open_slice_fields Try.underlying62 Try.underlying69 (by kernel_rfl) (by kernel_rfl) hf with ⟨h1, h2⟩ | ⟨a, len, cap, m, D, Pl, hv, hb, hl, hm, hmm, hx, hfs⟩
  · have : Value.slice ao n c = .slice none 0 0 := by simpa [Value.cells] using h1
    cases this
    exact ⟨[], ⟨⟨_, _, rfl, fun h => absurd h (by simp)⟩, fun n hn => absurd hn (by simp)⟩⟩
  · have : Value.slice ao n c = .slice (some a) len cap := by simpa [Value.cells] using hv
    cases this
    have hln : n ≤ m := by rw [hmm]; split <;> omega
    have hone : ∀ i, ∃ s : St4, (i < n → (w.cell? (a.add (i * 3)) = some (.bool s.crash) ∧ w.cell? (a.add (i * 3 + 1)) = some (.string s.keep) ∧ w.cell? (a.add (i * 3 + 2)) = some s.lv)) ∧ SlP w (fun _ => False) w s.lv s.l ∧ (s.lv = .slice none 0 0 ∨ ∃ ad c, s.lv = .slice (some ad) s.l.length c) := by
      intro i
      by_cases hi : i < n
      · obtain ⟨ys, k, _, _, _, hg⟩ := hfs i (by omega)
        obtain ⟨v0, y0, c0, _, t0⟩ := hg 0 _ rfl
        obtain ⟨v1, y1, c1, _, t1⟩ := hg 1 _ rfl
        obtain ⟨v2, y2, c2, _, t2⟩ := hg 2 _ rfl
        obtain ⟨n0, e0, _⟩ := DataW.trod_bool Try.underlying4 t0
        obtain ⟨n1, e1, _, w1⟩ := DataW.trod_string Try.underlying9 t1
        obtain ⟨l2, hl2⟩ := open_puts_core t2
        simp only [List.cons.injEq, and_true] at e0 e1
        subst e0 e1
        exact ⟨⟨n0, n1, v2, l2⟩, fun _ => ⟨c0, c1, c2⟩, hl2⟩
      · exact ⟨st40, fun h => absurd h hi, ⟨none, 0, rfl, fun h => absurd h (by simp [st40])⟩, .inl rfl⟩
    obtain ⟨f, hfn⟩ := Classical.axiomOfChoice hone
    have hg : ∀ i, i < n → ((List.range n).map f).getD i st40 = f i := fun i hi => by simp [List.getD_eq_getElem?_getD, hi]
    refine ⟨(List.range n).map f, ⟨⟨some a, c, by simp, fun h => ?_⟩, ?_⟩⟩
    · simp at h
      obtain ⟨b, off, rfl⟩ := addr_plain ((hfn 0).1 h).1
      refine ⟨b, off, rfl, lt_of_cell' ((hfn 0).1 h).1, fun i hi => ?_⟩
      simp at hi
      rw [hg i hi]
      have h4 := (hfn i).1 hi
      simpa only [Go.WideShapes.add_plain, Nat.add_assoc] using h4
    · intro s hs
      simp at hs
      obtain ⟨i, hi, rfl⟩ := hs
      exact (hfn i).2

section
variable {w0 w W W' : World} {X : Nat → Prop} {p jb N B fr n g r : Nat} {h : Nat → ByteArray} {s : DS}
set_option maxHeartbeats 400000 in
theorem jmax_nil (W : World) : Calls Try.prog 38 #[.pointer none] W fun e W' => e = .returned (.int .i64 0) ∧ W = W' := by
  go_enter Try.func38, Try.ntmps38
  go_wp2_with fail
  go_ret
  exact ⟨rfl, rfl⟩
set_option maxHeartbeats 400000 in
theorem jgen_nil (W : World) : Calls Try.prog 34 #[.pointer none] W fun e W' => e = .returned (.int .u64 0) ∧ W = W' := by
  go_enter Try.func34, Try.ntmps34
  go_wp2_with fail
  go_ret
  exact ⟨rfl, rfl⟩
set_option maxHeartbeats 400000 in
theorem jrec_nil (W : World) : Calls Try.prog 39 #[.pointer none] W fun e W' => e = .returned (.int .i64 0) ∧ W = W' := by
  go_enter Try.func39, Try.ntmps39
  go_wp2_with fail
  go_ret
  exact ⟨rfl, rfl⟩
set_option maxHeartbeats 400000 in
theorem jcommit_nil (v : Value) (W : World) : Calls Try.prog 37 #[.pointer none, v] W fun e W' => e = .returned (.tuple #[.int .u64 0, .int .i64 1]) ∧ W = W' := by
  go_enter Try.func37, Try.ntmps37
  go_wp2_with fail
  go_ret2
  exact ⟨rfl, rfl⟩
/-- May a journal be there? -/
def mayB (all fr n : Int) : Bool := decide (4 ≤ n ∧ n ≤ 256 ∧ 0 ≤ fr ∧ fr ≤ all - n)
set_option maxHeartbeats 2000000 in
theorem rmay_any (fr n : Int) (W : World) : Calls Try.prog 40 #[.int .i64 80, .int .i64 fr, .int .i64 n] W fun e W' => e = .returned (.bool (mayB 80 fr n)) ∧ W = W' := by
  by_cases h1 : n ≥ 4
  · by_cases h2 : n ≤ 256
    · by_cases h3 : fr ≥ 0
      · have hw : IntKind.i64.wrap (80 - n) = 80 - n := i64_sm (by omega) (by omega)
        by_cases h4 : fr ≤ 80 - n
        · have hm : mayB 80 fr n = true := decide_eq_true ⟨h1, h2, h3, h4⟩
          rw [hm]
          have d1 : decide (n ≥ 4) = true := decide_eq_true h1
          have d2 : decide (n ≤ 256) = true := decide_eq_true h2
          have d3 : decide (fr ≥ 0) = true := decide_eq_true h3
          have d4 : decide (fr ≤ 80 - n) = true := decide_eq_true h4
          go_enter Try.func40, Try.ntmps40
          go_wp2_with fail
          go_ret
          exact ⟨rfl, rfl⟩
        · have hm : mayB 80 fr n = false := decide_eq_false (fun h => h4 h.2.2.2)
          rw [hm]
          have d1 : decide (n ≥ 4) = true := decide_eq_true h1
          have d2 : decide (n ≤ 256) = true := decide_eq_true h2
          have d3 : decide (fr ≥ 0) = true := decide_eq_true h3
          have d4 : decide (fr ≤ 80 - n) = false := decide_eq_false h4
          go_enter Try.func40, Try.ntmps40
          go_wp2_with fail
          go_ret
          exact ⟨rfl, rfl⟩
      · have hm : mayB 80 fr n = false := decide_eq_false (fun h => h3 h.2.2.1)
        rw [hm]
        have d1 : decide (n ≥ 4) = true := decide_eq_true h1
        have d2 : decide (n ≤ 256) = true := decide_eq_true h2
        have d3 : decide (fr ≥ 0) = false := decide_eq_false h3
        go_enter Try.func40, Try.ntmps40
        go_wp2_with fail
        go_ret
        exact ⟨rfl, rfl⟩
    · have hm : mayB 80 fr n = false := decide_eq_false (fun h => h2 h.2.1)
      rw [hm]
      have d1 : decide (n ≥ 4) = true := decide_eq_true h1
      have d2 : decide (n ≤ 256) = false := decide_eq_false h2
      go_enter Try.func40, Try.ntmps40
      go_wp2_with fail
      go_ret
      exact ⟨rfl, rfl⟩
  · have hm : mayB 80 fr n = false := decide_eq_false (fun h => h1 h.1)
    rw [hm]
    have d1 : decide (n ≥ 4) = false := decide_eq_false h1
    go_enter Try.func40, Try.ntmps40
    go_wp2_with fail
    go_ret
    exact ⟨rfl, rfl⟩
set_option maxHeartbeats 2000000 in
theorem open_no (h1 : DvO w0 X p s W) (hN : s.hard.length = 80) (fr n : Int) (hm : mayB 80 fr n = false) : Calls Try.prog 32 #[.pointer (some ⟨p, 0, none⟩), .int .i64 fr, .int .i64 n] W fun e W' => e = .returned (.tuple #[.pointer none, .int .i64 2]) ∧ W = W' := by
  have hc := o_len h1 hN
  have HC := Lib.hid hc
  have hm' := of_decide_eq_false hm
  clear hc h1 hm
  by_cases a1 : n < 4
  · have d1 : decide (n < 4) = true := decide_eq_true a1
    clear hm' a1
    go_enter Try.func32, Try.ntmps32
    go_wp2_with fail
    go_ret2
    exact ⟨rfl, rfl⟩
  · have d1 : decide (n < 4) = false := decide_eq_false a1
    by_cases a2 : n > 256
    · have d2 : decide (n > 256) = true := decide_eq_true a2
      clear hm' a1 a2
      go_enter Try.func32, Try.ntmps32
      go_wp2_with fail
      go_ret2
      exact ⟨rfl, rfl⟩
    · have d2 : decide (n > 256) = false := decide_eq_false a2
      by_cases a3 : fr < 0
      · have d3 : decide (fr < 0) = true := decide_eq_true a3
        clear hm' a1 a2 a3
        go_enter Try.func32, Try.ntmps32
        go_wp2_with fail
        go_ret2
        exact ⟨rfl, rfl⟩
      · have d3 : decide (fr < 0) = false := decide_eq_false a3
        have a4 : fr > 80 - n := by
          apply Decidable.of_not_not
          intro h
          exact hm' ⟨by omega, by omega, by omega, by omega⟩
        have hw : IntKind.i64.wrap (80 - n) = 80 - n := i64_sm (by omega) (by omega)
        have d4 : decide (fr > 80 - n) = true := decide_eq_true a4
        have d5 : decide (80 - n < fr) = true := decide_eq_true a4
        have b1 : 4 ≤ n := by omega
        have b2 : n ≤ 256 := by omega
        clear hm' a1 a2 a3 a4
        go_enter Try.func32, Try.ntmps32
        go_wp2_with fail
        refine HC.out.mono ?_
        rintro e w1 ⟨rfl, rfl⟩
        go_wp2_with fail
        go_ret2
        exact ⟨rfl, rfl⟩

/-- Is a script no more than a statement plays? -/
def Brief4 (ls : List St4) : Prop := ls.length ≤ 40 ∧ ∀ x ∈ ls, Brief x.l ∧ x.keep.size ≤ 300
set_option maxHeartbeats 4000000 in
theorem many_any {v : Value} {ls : List St4} (hl : Sl4 W v ls) : Calls Try.prog 36 #[v] W fun e W' => ∃ b, e = .returned (.bool b) ∧ (b = false → Brief4 ls) ∧ W = W' := by
  obtain ⟨⟨ao, cap, rfl, hval⟩, hputs⟩ := hl
  have HV := Lib.hid hval
  have HP := Lib.hid hputs
  clear hval hputs
  go_enter Try.func36, Try.ntmps36
  go_wp2_with fail
  go_loopw [3, 4] (fun v3 v4 wr => ∃ k : Nat, ∃ q : Int, k ≤ ls.length ∧ k ≤ 100 ∧ v4 = .int .i64 k ∧ v3 = .int .i64 q ∧ Hid (∀ x ∈ ls.take k, Brief x.l ∧ x.keep.size ≤ 300) ∧ wr = W) (fun _ v4 _ => ls.length - (intOf v4).toNat)
  case atStart => exact ⟨0, 0, Nat.zero_le _, Nat.zero_le _, rfl, rfl, Lib.hid (by simp), rfl⟩
  case round =>
    obtain ⟨k, q, hk, hk1, rfl, rfl, HS, rfl⟩ := hrel
    by_cases hlt : k < ls.length
    · by_cases h1 : k < 100
      · obtain ⟨b, off, rfl, hb, hc⟩ := HV.out (by omega)
        obtain ⟨c0, c1, c2⟩ := hc k hlt
        rw [List.getD_eq_getElem?_getD, List.getElem?_eq_getElem hlt, Option.getD_some] at c0 c1 c2
        have hts : ls.take (k + 1) = ls.take k ++ [ls[k]] := List.take_succ_eq_append_getElem hlt
        have hpk := HP.out ls[k] (List.getElem_mem hlt)
        have HT := Lib.hid hts
        clear hts hc
        generalize ls[k] = x at *
        obtain ⟨cr, kp, lv, pl⟩ := x
        dsimp only at c0 c1 c2 hpk
        have hlo := long04_any hpk.1
        obtain ⟨lao, lcap, rfl, hlv⟩ := hpk.1
        have HLO := Lib.hid hlo
        clear hlo hlv hpk
        go_wp2_with fail
        refine HLO.out.mono ?_
        rintro e w1 ⟨bl, rfl, hbl, rfl⟩
        cases bl
        · have HBL := Lib.hid (hbl rfl)
          clear hbl
          by_cases h2 : 300 < kp.size
          · have e2 : decide ((kp.size : Int) > 300) = true := decide_eq_true (by omega)
            clear h2
            go_wp2_with fail
            go_ret
            exact ⟨_, rfl, (fun h => (by cases h)), rfl⟩
          · have e2 : decide ((kp.size : Int) > 300) = false := decide_eq_false (by omega)
            have HNX : Hid (∀ x ∈ ls.take (k + 1), Brief x.l ∧ x.keep.size ≤ 300) := Lib.hid (by
              rw [HT.out]
              intro x hx
              rcases List.mem_append.1 hx with hx | hx
              · exact HS.out x hx
              · rw [List.mem_singleton] at hx
                rw [hx]; exact ⟨HBL.out, by show kp.size ≤ 300; omega⟩)
            clear h2
            go_wp2_with fail
            go_roundw
            case rel => exact ⟨k + 1, _, by omega, by omega, by go_num, rfl, HNX, trivial⟩
            case measure => simp [intOf]; omega
        · clear hbl
          go_wp2_with fail
          go_ret
          exact ⟨_, rfl, (fun h => (by cases h)), rfl⟩
      · have d4 : decide ((ls.length : Int) > 40) = true := decide_eq_true (by omega)
        have d3 : decide ((k : Int) < 100) = false := decide_eq_false (by omega)
        go_wp2_with fail
        go_ret
        exact ⟨_, rfl, (fun h => (by cases h)), rfl⟩
    · obtain rfl : k = ls.length := by omega
      rw [List.take_of_length_le (Nat.le_refl _)] at HS
      by_cases h6 : 40 < ls.length
      · have d4 : decide ((ls.length : Int) > 40) = true := decide_eq_true (by omega)
        go_wp2_with fail
        go_ret
        exact ⟨_, rfl, (fun h => (by cases h)), rfl⟩
      · have d4 : decide ((ls.length : Int) > 40) = false := decide_eq_false (by omega)
        have HB : Hid (Brief4 ls) := Lib.hid ⟨by omega, HS.out⟩
        go_wp2_with fail
        go_ret
        exact ⟨_, rfl, (fun _ => HB.out), rfl⟩

theorem most_is (n : Nat) (hn : 1 ≤ n) : ∃ m, IsMost n m := by
  refine ⟨(n - 1) - (n - 1 + 32) / 33, ?_⟩
  unfold IsMost places
  omega
/-- A commit, with what it writes. -/
theorem commit_JLw {v : Value} (l : Puts) (h1 : JS w0 X p jb N B fr n g r s W) (jl : JL N fr g h s) (hl : SlP w0 X W v (zP l)) {m : Nat} (hm : IsMost n m) (mp : MayP N fr n l) (hn : n ≤ 256) (hg : g + 1 < 18446744073709551616) (hB : B + 600 ≤ 90000) :
    Calls Try.prog 37 #[.pointer (some ⟨jb, 0, none⟩), v] W fun e W' => ∃ s' h', e = .returned (.tuple #[.int .u64 ((g + 1 : Nat) : Int), .int .i64 0]) ∧ JS w0 X p jb N (B + 600) fr n (g + 1) r s' W' ∧ JL N fr (g + 1) h' s' ∧ (∀ i, Out N fr n i → h' i = laid h l i) ∧ Kb w0 (fun k => X k ∧ k ≠ jb) W W' ∧ s.writes ≤ s'.writes ∧ s'.writes ≤ s.writes + (2 * l.length + places l.length + 2 : Nat) := by
  have hwc := mp.wc hn (g + 1)
  obtain ⟨hok, h', j1, j2⟩ := commit_free mp jl hg
  obtain ⟨w1, w2⟩ := runO_writes (commitO fr (g + 1) l) s
  have hc := wcount_commit fr (g + 1) l
  rw [areaL_length] at hc
  refine (commit_any l h1 hl hm mp hg (by omega)).mono ?_
  rintro e W' (⟨_, rfl, a, b⟩ | ⟨hno, _⟩)
  · exact ⟨_, h', rfl, a.mono (by omega), j1, j2, b, w1, by rw [hc] at w2; push_cast at w2 ⊢; omega⟩
  · rw [hok] at hno; cases hno
/-- What stands between two steps. -/
structure PyI (w0 : World) (p fr n k jb g : Nat) (v : Value) (W : World) : Prop where
  ex : ∃ (X : Nat → Prop) (s : DS) (h : Nat → ByteArray) (r : Nat) (Wl : List ByteArray), JS w0 X p jb 80 (600 * k) fr n g r s W ∧ JL 80 fr g h s ∧ TxAt W v Wl (fun q => X q ∧ q ≠ jb) ∧ Wl.length = 80 ∧ ∀ i, Out 80 fr n i → Wl.getD i ByteArray.empty = h i

def pcz (l : List PutZ) : List Value := l.flatMap fun x => [.int .i64 x.1, .string x.2]
theorem pcz_length (l : List PutZ) : (pcz l).length = l.length * 2 := by
  induction l with
  | nil => rfl
  | cons x l ih => simp [pcz] at ih ⊢; omega
theorem pcz_at : ∀ (l : List PutZ) (i : Nat) (h : i < l.length), (pcz l)[i * 2]? = some (.int .i64 l[i].1) ∧ (pcz l)[i * 2 + 1]? = some (.string l[i].2)
  | x :: l, 0, _ => ⟨rfl, rfl⟩
  | x :: l, i + 1, h => by
    have := pcz_at l i (by simpa using h)
    have e : pcz (x :: l) = .int .i64 x.1 :: .string x.2 :: pcz l := rfl
    rw [e, show (i + 1) * 2 = i * 2 + 1 + 1 by omega]
    exact this
theorem pcz_news {W : World} {l : List PutZ} {b off : Nat} (hc : ∀ i, i < l.length → W.cell? ⟨b, off + i * 2, none⟩ = some (.int .i64 (l.getD i (0, ByteArray.empty)).1) ∧ W.cell? ⟨b, off + i * 2 + 1, none⟩ = some (.string (l.getD i (0, ByteArray.empty)).2)) : ∀ j u, (pcz l)[j]? = some u → W.cell? (Addr.add ⟨b, off, none⟩ j) = some u := by
  intro j u hj
  have hlt : j < (pcz l).length := by
    rcases Nat.lt_or_ge j (pcz l).length with h | h
    · exact h
    · rw [List.getElem?_eq_none h] at hj; cases hj
  rw [pcz_length] at hlt
  have hi : j / 2 < l.length := by omega
  obtain ⟨a1, a2⟩ := hc (j / 2) hi
  rw [List.getD_eq_getElem?_getD, List.getElem?_eq_getElem hi, Option.getD_some] at a1 a2
  obtain ⟨p1, p2⟩ := pcz_at l (j / 2) hi
  rw [Addr.add_lit]
  rcases Nat.mod_two_eq_zero_or_one j with hm | hm
  · have e : j / 2 * 2 = j := by omega
    rw [e] at p1 a1
    rw [p1] at hj
    cases hj
    exact a1
  · have e : j / 2 * 2 + 1 = j := by omega
    rw [e] at p2
    rw [p2] at hj
    cases hj
    rw [show off + j = off + j / 2 * 2 + 1 by omega]
    exact a2
theorem pcz_one (l : List PutZ) : ∀ u ∈ pcz l, u.oneCell' = true := by
  intro u hu
  obtain ⟨x, _, hx⟩ := List.mem_flatMap.1 hu
  simp at hx
  rcases hx with rfl | rfl <;> rfl
theorem slp_own {w0 w1 : World} {base : Nat} {l : List PutZ} {v : Value} (hown : w1.ownsRow base 76 2 v l.length (pcz l)) : SlP w0 (fun k => base ≤ k ∧ k < w1.heap.size) w1 v l := by
  rcases hown.2 with ⟨rfl, h0⟩ | ⟨g, cap, cur, rfl, h0, hh, hr⟩
  · exact ⟨none, 0, by rw [h0], fun hp => by omega⟩
  · refine ⟨some ⟨g, 0, none⟩, cap, rfl, fun hp => ⟨g, 0, rfl, .inr ⟨h0, blk_lt hh⟩, fun i hi => ?_⟩⟩
    obtain ⟨a, b⟩ := pcz_at l i hi
    have hc := fun j u (hj : (pcz l)[j]? = some u) => ownsRow_cell (ownsRow_base hown) rfl hj
    rw [List.getD_eq_getElem?_getD, List.getElem?_eq_getElem hi, Option.getD_some]
    exact ⟨by rw [Nat.zero_add]; exact hc _ _ a, by rw [Nat.zero_add]; exact hc _ _ b⟩
end
end Go.Proofs.Ytjjphcnoegaimaa
