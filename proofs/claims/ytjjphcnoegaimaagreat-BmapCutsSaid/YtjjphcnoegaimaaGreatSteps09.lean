/- Steps of lunettelaw09 that come in; long. -/
import Derived.Test.YtjjphcnoegaimaaGreatSteps08
import Derived.Test.YtjjphcnoegaimaaGreatGP
namespace Go.Proofs.YtjjphcnoegaimaaGreat
open Go.RowKit Go.ChangeShapes Go.WideShapes Go.Deep
set_option linter.unusedSimpArgs false
set_option maxRecDepth 100000

theorem open_nums_core {H : Type} {P : Program} {enc : TypeId × Value → H} {w : World} {base : Nat} {held : Bool} {spare : Nat → Bool} {t e : TypeId} {k : IntKind} {v : Value} {fuel : Nat} {y : DataW H × List MemPlace}
    (ht : P.underlying t = some (.slice e)) (he : P.underlying e = some (.int k)) (hc : P.cellsOf e = 1) (hf : DataW.trod enc P w base spare held fuel t [v] = some y) : ∃ zs, SlI k w v zs := by
  rcases open_ints ht he hc hf with ⟨h1, h2⟩ | ⟨a, len, cap, zs, hv, hb, hl, hm, hlen, hx, hcell, hwf⟩
  · have : v = Value.slice none 0 0 := by simpa using h1
    subst this
    exact ⟨[], ⟨⟨_, _, rfl, fun h => absurd h (by simp)⟩, fun n hn => absurd hn (by simp)⟩⟩
  · have : v = Value.slice (some a) len cap := by simpa using hv
    subst this
    have hln : len ≤ zs.length := by split at hlen <;> omega
    refine ⟨zs.take len, ⟨⟨_, cap, by rw [List.length_take, Nat.min_eq_left hln], fun h => ?_⟩, fun x hn => hwf x (List.mem_of_mem_take hn)⟩⟩
    rw [List.length_take, Nat.min_eq_left hln] at h ⊢
    obtain ⟨b, off, rfl, hcs⟩ := ints_at hcell (by omega)
    have h0 := hcs 0 (by omega)
    refine ⟨b, off, rfl, lt_of_cell h0, fun j hj => ?_⟩
    rw [hcs j (by omega), List.getD_eq_getElem?_getD, List.getD_eq_getElem?_getD, List.getElem?_take_of_lt hj]

/-- A step. -/
structure St9 where
  op : Int
  page : Int
  b : Int
  lv : Value
  l : List Int
def st90 : St9 := ⟨0, 0, 0, .slice none 0 0, []⟩
/-- A step's cells. -/
def st9c (W : World) (b o : Nat) (x : St9) : Prop := W.cell? ⟨b, o, none⟩ = some (.int .i64 x.op) ∧ W.cell? ⟨b, o + 1, none⟩ = some (.int .i64 x.page) ∧ W.cell? ⟨b, o + 2, none⟩ = some (.int .u16 x.b) ∧ W.cell? ⟨b, o + 3, none⟩ = some x.lv
/-- A slice of steps. -/
structure Sl9 (W : World) (v : Value) (ls : List St9) : Prop where
  val : ∃ ao cap, v = .slice ao ls.length cap ∧ (0 < ls.length → ∃ b off, ao = some ⟨b, off, none⟩ ∧ b < W.heap.size ∧ ∀ i, i < ls.length → st9c W b (off + i * 4) (ls.getD i st90))
  wf : ∀ n ∈ ls, (Lit.int .i64 n.op).wf = true ∧ (Lit.int .i64 n.page).wf = true ∧ (Lit.int .u16 n.b).wf = true ∧ SlI .u16 W n.lv n.l

theorem open_steps9 {H : Type} {enc : TypeId × Value → H} {w : World} {base : Nat} {held : Bool} {spare : Nat → Bool} {v : Value} {d : DataW H} {ps : List MemPlace}
    {r : Reach} {b0 : Nat} (hval : Value.okWide Tryz.prog w r b0 62 v) (hd : DataW.Trod enc Tryz.prog w base spare held 62 v d ps) : ∃ ls, Sl9 w v ls := by
  obtain ⟨fuel, hf⟩ := hd
  obtain ⟨ao, n, c, hv⟩ : ∃ ao n c, v = .slice ao n c := okWide_slice Tryz.underlying62 hval
  subst hv
  rcases open_slice_fields Tryz.underlying62 Tryz.underlying83 (by kernel_rfl) (by kernel_rfl) hf with ⟨h1, h2⟩ | ⟨a, len, cap, m, D, Pl, hv, hb, hl, hm, hmm, hx, hfs⟩
  · have : Value.slice ao n c = .slice none 0 0 := by simpa [Value.cells] using h1
    cases this
    exact ⟨[], ⟨⟨_, _, rfl, fun h => absurd h (by simp)⟩, fun n hn => absurd hn (by simp)⟩⟩
  · have : Value.slice ao n c = .slice (some a) len cap := by simpa [Value.cells] using hv
    cases this
    have hln : n ≤ m := by rw [hmm]; split <;> omega
    have hone : ∀ i, ∃ s : St9, i < n → (w.cell? (a.add (i * 4)) = some (.int .i64 s.op) ∧ w.cell? (a.add (i * 4 + 1)) = some (.int .i64 s.page) ∧ w.cell? (a.add (i * 4 + 2)) = some (.int .u16 s.b) ∧ w.cell? (a.add (i * 4 + 3)) = some s.lv) ∧
        (Lit.int .i64 s.op).wf = true ∧ (Lit.int .i64 s.page).wf = true ∧ (Lit.int .u16 s.b).wf = true ∧ SlI .u16 w s.lv s.l := by
      intro i
      by_cases hi : i < n
      · obtain ⟨ys, k, _, _, _, hg⟩ := hfs i (by omega)
        obtain ⟨v0, y0, c0, _, t0⟩ := hg 0 _ rfl
        obtain ⟨v1, y1, c1, _, t1⟩ := hg 1 _ rfl
        obtain ⟨v2, y2, c2, _, t2⟩ := hg 2 _ rfl
        obtain ⟨v3, y3, c3, _, t3⟩ := hg 3 _ rfl
        obtain ⟨n0, e0, _, w0⟩ := DataW.trod_int Tryz.underlying3 t0
        obtain ⟨n1, e1, _, w1⟩ := DataW.trod_int Tryz.underlying3 t1
        obtain ⟨n2, e2, _, w2⟩ := DataW.trod_int Tryz.underlying57 t2
        obtain ⟨zs, hz⟩ := open_nums_core Tryz.underlying68 Tryz.underlying57 (by kernel_rfl) t3
        simp only [List.cons.injEq, and_true] at e0 e1 e2
        subst e0 e1 e2
        exact ⟨⟨n0, n1, n2, v3, zs⟩, fun _ => ⟨⟨c0, c1, c2, c3⟩, w0, w1, w2, hz⟩⟩
      · exact ⟨st90, fun h => absurd h hi⟩
    obtain ⟨f, hfn⟩ := Classical.axiomOfChoice hone
    have hg : ∀ i, i < n → ((List.range n).map f).getD i st90 = f i := fun i hi => by simp [List.getD_eq_getElem?_getD, hi]
    refine ⟨(List.range n).map f, ⟨⟨some a, c, by simp, fun h => ?_⟩, ?_⟩⟩
    · simp at h
      obtain ⟨b, off, rfl⟩ := addr_plain (hfn 0 h).1.1
      refine ⟨b, off, rfl, lt_of_cell' (hfn 0 h).1.1, fun i hi => ?_⟩
      simp at hi
      rw [hg i hi]
      have h4 := (hfn i hi).1
      unfold st9c
      simpa only [Go.WideShapes.add_plain, Nat.add_assoc] using h4
    · intro s hs
      simp at hs
      obtain ⟨i, hi, rfl⟩ := hs
      exact (hfn i hi).2

set_option maxRecDepth 20000 in
set_option maxHeartbeats 2000000 in
theorem long9_any {w : World} {v : Value} {ls : List St9} (h : Sl9 w v ls) : Calls Tryz.prog 23 #[v] w fun e w' => ∃ b, e = .returned (.bool b) ∧ (b = false → ls.length ≤ 80) ∧ w = w' := by
  obtain ⟨⟨ao, cap, rfl, hval⟩, hwf⟩ := h
  have HV := Lib.hid hval
  have HW := Lib.hid hwf
  clear hval hwf
  go_enter Tryz.func23, Tryz.ntmps23
  go_wp2_with fail
  go_loopw [3, 4] (fun v3 v4 wr => ∃ k : Nat, ∃ m : Int, k ≤ ls.length ∧ k ≤ 200 ∧ v4 = .int .i64 k ∧ v3 = .int .i64 m ∧ wr = w) (fun _ v4 _ => ls.length - (intOf v4).toNat)
  case atStart => exact ⟨0, 0, Nat.zero_le _, Nat.zero_le _, rfl, rfl, rfl⟩
  case round =>
    obtain ⟨k, m, hk, hk3, rfl, rfl, rfl⟩ := hrel
    by_cases hlt : k < ls.length
    · have dl : decide ((k : Int) < (ls.length : Int)) = true := decide_eq_true (by omega)
      by_cases h3 : k < 200
      · have d3 : decide ((k : Int) < 200) = true := decide_eq_true (by omega)
        obtain ⟨b, off, rfl, hbl, hc⟩ := HV.out (by omega)
        obtain ⟨c0, c1, c2, c3⟩ := hc k hlt
        obtain ⟨-, -, -, ⟨ao2, cap2, e2, -⟩, -⟩ := HW.out (ls.getD k st90) (by rw [List.getD_eq_getElem?_getD, List.getElem?_eq_getElem hlt]; exact List.getElem_mem hlt)
        rw [e2] at c3
        generalize ls.getD k st90 = x at *
        have HC := Lib.hid hc
        clear hc e2
        go_wp2_with fail
        go_roundw
        case rel => exact ⟨k + 1, _, by omega, by omega, by go_num, rfl, trivial⟩
        case measure => simp [intOf]; omega
      · have d3 : decide ((k : Int) < 200) = false := decide_eq_false (by omega)
        have d4 : decide ((ls.length : Int) > 80) = true := decide_eq_true (by omega)
        go_wp2_with fail
        go_ret
        exact ⟨_, rfl, (fun h => (by cases h)), rfl⟩
    · have dl : decide ((k : Int) < (ls.length : Int)) = false := decide_eq_false (by omega)
      by_cases h150 : 80 < ls.length
      · have d4 : decide ((ls.length : Int) > 80) = true := decide_eq_true (by omega)
        go_wp2_with fail
        go_ret
        exact ⟨_, rfl, (fun h => (by cases h)), rfl⟩
      · have d4 : decide ((ls.length : Int) > 80) = false := decide_eq_false (by omega)
        go_wp2_with fail
        go_ret
        exact ⟨_, rfl, (fun _ => (by omega)), rfl⟩
end Go.Proofs.YtjjphcnoegaimaaGreat
