/- Rows of puts that come in; lunettelaw04.Long, sectors, same; lunetteref04. -/
import Derived.Test.YtjjphcnoegaimaaJOpen
import Derived.Test.YtjjphcnoegaimaaSteps03
namespace Go.Proofs.Ytjjphcnoegaimaa
open Go.RowKit Go.Shelf Go.Maps Go.ChangeShapes Go.WideShapes Go.Deep
set_option maxRecDepth 20000
set_option linter.unusedVariables false

theorem open_puts {H : Type} {enc : TypeId × Value → H} {w : World} {base : Nat} {held : Bool} {spare : Nat → Bool} {v : Value} {d : DataW H} {ps : List MemPlace}
    {r : Reach} {b0 : Nat} (hval : Value.okWide Try.prog w r b0 52 v) (hd : DataW.Trod enc Try.prog w base spare held 52 v d ps) : ∃ ls, SlP w (fun _ => False) w v ls := by
  obtain ⟨fuel, hf⟩ := hd
  obtain ⟨ao, n, c, hv⟩ : ∃ ao n c, v = .slice ao n c := okWide_slice Try.underlying52 hval
  subst hv
  rcases open_slice_fields Try.underlying52 Try.underlying76 (by kernel_rfl) (by kernel_rfl) hf with ⟨h1, h2⟩ | ⟨a, len, cap, m, D, Pl, hv, hb, hl, hm, hmm, hx, hfs⟩
  · have : Value.slice ao n c = .slice none 0 0 := by simpa [Value.cells] using h1
    cases this
    exact ⟨[], _, _, rfl, fun h => absurd h (by simp)⟩
  · have : Value.slice ao n c = .slice (some a) len cap := by simpa [Value.cells] using hv
    cases this
    have hln : n ≤ m := by rw [hmm]; split <;> omega
    have hone : ∀ i, ∃ s : PutZ, i < n → (w.cell? (a.add (i * 2)) = some (.int .i64 s.1) ∧ w.cell? (a.add (i * 2 + 1)) = some (.string s.2)) := by
      intro i
      by_cases hi : i < n
      · obtain ⟨ys, k, _, _, _, hg⟩ := hfs i (by omega)
        obtain ⟨v0, y0, c0, _, t0⟩ := hg 0 _ rfl
        obtain ⟨v1, y1, c1, _, t1⟩ := hg 1 _ rfl
        obtain ⟨n0, e0, _, w0⟩ := DataW.trod_int Try.underlying3 t0
        obtain ⟨n1, e1, _, w1⟩ := DataW.trod_string Try.underlying9 t1
        simp only [List.cons.injEq, and_true] at e0 e1
        subst e0 e1
        exact ⟨(n0, n1), fun _ => ⟨c0, c1⟩⟩
      · exact ⟨(0, ByteArray.empty), fun h => absurd h hi⟩
    obtain ⟨f, hfn⟩ := Classical.axiomOfChoice hone
    have hg : ∀ i, i < n → ((List.range n).map f).getD i (0, ByteArray.empty) = f i := fun i hi => by simp [List.getD_eq_getElem?_getD, hi]
    refine ⟨(List.range n).map f, some a, c, by simp, fun h => ?_⟩
    simp at h
    obtain ⟨b, off, rfl⟩ := addr_plain (hfn 0 h).1
    refine ⟨b, off, rfl, .inl (lt_of_cell' (hfn 0 h).1), fun i hi => ?_⟩
    simp at hi
    rw [hg i hi]
    have h4 := hfn i hi
    simpa only [Go.WideShapes.add_plain, Nat.add_assoc] using h4

section
variable {w0 w W W' W1 : World} {X : Nat → Prop} {p jb N B fr n g r : Nat} {s : DS}
/-- Is a transaction no more than a statement plays? -/
def Brief (l : List PutZ) : Prop := l.length ≤ 60 ∧ ∀ x ∈ l, x.2.size ≤ 200
set_option maxHeartbeats 4000000 in
theorem long04_any {v : Value} {l : List PutZ} (hl : SlP w0 X W v l) : Calls Try.prog 44 #[v] W fun e W' => ∃ b, e = .returned (.bool b) ∧ (b = false → Brief l) ∧ W = W' := by
  obtain ⟨ao, cap, rfl, hval⟩ := hl
  have HV := Lib.hid hval
  clear hval
  go_enter Try.func44, Try.ntmps44
  go_wp2_with fail
  go_loopw [3] (fun v3 wr => ∃ k : Nat, k ≤ l.length ∧ k ≤ 100 ∧ v3 = .int .i64 k ∧ Hid (∀ x ∈ l.take k, x.2.size ≤ 200) ∧ wr = W) (fun v3 _ => l.length - (intOf v3).toNat)
  case atStart => exact ⟨0, Nat.zero_le _, Nat.zero_le _, rfl, Lib.hid (by simp), rfl⟩
  case round =>
    obtain ⟨k, hk, hk1, rfl, HS, rfl⟩ := hrel
    by_cases hlt : k < l.length
    · by_cases h1 : k < 100
      · obtain ⟨b, off, rfl, hb, hc⟩ := HV.out (by omega)
        obtain ⟨c0, c1⟩ := hc k hlt
        rw [List.getD_eq_getElem?_getD, List.getElem?_eq_getElem hlt, Option.getD_some] at c0 c1
        have hts : l.take (k + 1) = l.take k ++ [l[k]] := List.take_succ_eq_append_getElem hlt
        have HT := Lib.hid hts
        clear hts hc c0
        generalize l[k] = x at *
        obtain ⟨z, dat⟩ := x
        dsimp only at c1
        by_cases h2 : 200 < dat.size
        · have e2 : decide ((dat.size : Int) > 200) = true := decide_eq_true (by omega)
          clear h2
          go_wp2_with fail
          go_ret
          exact ⟨_, rfl, (fun h => (by cases h)), rfl⟩
        · have e2 : decide ((dat.size : Int) > 200) = false := decide_eq_false (by omega)
          have HNX : Hid (∀ x ∈ l.take (k + 1), x.2.size ≤ 200) := Lib.hid (by
            rw [HT.out]
            intro x hx
            rcases List.mem_append.1 hx with hx | hx
            · exact HS.out x hx
            · rw [List.mem_singleton] at hx
              rw [hx]; show dat.size ≤ 200; omega)
          clear h2
          go_wp2_with fail
          go_roundw
          case rel => exact ⟨k + 1, by omega, by omega, by go_num, HNX, trivial⟩
          case measure => simp [intOf]; omega
      · have d4 : decide ((l.length : Int) > 60) = true := decide_eq_true (by omega)
        have d3 : decide ((k : Int) < 100) = false := decide_eq_false (by omega)
        go_wp2_with fail
        go_ret
        exact ⟨_, rfl, (fun h => (by cases h)), rfl⟩
    · obtain rfl : k = l.length := by omega
      rw [List.take_of_length_le (Nat.le_refl _)] at HS
      by_cases h6 : 60 < l.length
      · have d4 : decide ((l.length : Int) > 60) = true := decide_eq_true (by omega)
        go_wp2_with fail
        go_ret
        exact ⟨_, rfl, (fun h => (by cases h)), rfl⟩
      · have d4 : decide ((l.length : Int) > 60) = false := decide_eq_false (by omega)
        have HB : Hid (Brief l) := Lib.hid ⟨by omega, HS.out⟩
        go_wp2_with fail
        go_ret
        exact ⟨_, rfl, (fun _ => HB.out), rfl⟩

theorem div32' (k : Nat) : ((k : Int) + 1 + 31) / 32 = ((places (k + 1) : Nat) : Int) := by unfold places; omega
set_option maxHeartbeats 1000000 in
theorem rmax_any (n m : Nat) (hn : n ≤ 100000) (hm : IsMost n m) (w : World) : Calls Try.prog 41 #[.int .i64 n] w fun e w' => e = .returned (.int .i64 m) ∧ w = w' := by
  have HM := Lib.hid hm
  have h1 : 1 ≤ n := by have := hm.1; omega
  clear hm
  go_enter Try.func41, Try.ntmps41
  go_wp2_with fail
  go_loop [3] (fun v3 => ∃ k : Nat, k ≤ n ∧ v3 = .int .i64 k ∧ Hid (k + places k + 1 ≤ n)) (fun v3 => n + 1 - (intOf v3).toNat)
  case atStart => exact ⟨0, Nat.zero_le _, rfl, Lib.hid (by show 0 + 0 + 1 ≤ n; omega)⟩
  case round =>
    obtain ⟨k, hk, rfl, HK⟩ := hrel
    by_cases hlt : k + 1 + places (k + 1) + 1 ≤ n
    · have dl : decide ((k : Int) + 1 + ((k : Int) + 1 + 31) / 32 + 1 ≤ (n : Int)) = true := decide_eq_true (by rw [div32']; omega)
      have HL := Lib.hid hlt
      have hk2 : k + 1 ≤ n := by omega
      clear hlt
      go_wp2_with fail
      go_round
      case rel => exact ⟨k + 1, by omega, by go_num, HL⟩
      case measure => simp [intOf]; omega
    · have dl : decide ((k : Int) + 1 + ((k : Int) + 1 + 31) / 32 + 1 ≤ (n : Int)) = false := decide_eq_false (by rw [div32']; omega)
      have hmk : m = k := IsMost.uniq HM.out ⟨HK.out, by omega⟩
      have HMK := Lib.hid hmk
      clear hlt hmk
      go_wp2_with fail
      go_ret
      exact ⟨by rw [HMK.out]; rfl, rfl⟩

set_option maxHeartbeats 8000000 in
theorem rwhy_any {v : Value} (l : List PutZ) (hl : SlP w0 X W v l) {m : Nat} (hm : IsMost n m) (hn : n ≤ 4096) (hfr : fr ≤ 4096) (hN : N ≤ 4096) (hlen : l.length ≤ 1000000) (hsz : ∀ x ∈ l, x.2.size ≤ 1000000) :
    Calls Try.prog 42 #[.int .i64 N, .int .i64 fr, .int .i64 n, v] W fun e W' => e = .returned (.int .i64 (whyZ N fr n m l)) ∧ W = W' := by
  obtain ⟨ao, cap, rfl, hval⟩ := hl
  have HV := Lib.hid hval
  have HM := Lib.hid (rmax_any n m (by omega) hm W)
  have HSZ := Lib.hid hsz
  have hs : IntKind.i64.wrap ((fr : Int) + (n : Int)) = (fr : Int) + (n : Int) := i64_sm (by omega) (by omega)
  clear hval hm hsz
  go_enter Try.func42, Try.ntmps42
  go_wp2_with fail
  go_loopw [9] (fun v9 wr => ∃ k : Nat, k ≤ l.length ∧ v9 = .int .i64 k ∧ Hid (∀ x ∈ l.take k, ¬ badZ N x) ∧ wr = W) (fun v9 _ => l.length - (intOf v9).toNat)
  case atStart => exact ⟨0, Nat.zero_le _, rfl, Lib.hid (by simp), rfl⟩
  case round =>
    obtain ⟨k, hk, rfl, HB, rfl⟩ := hrel
    by_cases hlt : k < l.length
    · obtain ⟨b, off, rfl, hb, hc⟩ := HV.out (by omega)
      obtain ⟨d0, d1⟩ := hc k hlt
      rw [List.getD_eq_getElem?_getD, List.getElem?_eq_getElem hlt, Option.getD_some] at d0 d1
      have hts : l.take (k + 1) = l.take k ++ [l[k]] := List.take_succ_eq_append_getElem hlt
      have hmem : l[k] ∈ l := List.getElem_mem hlt
      have hxs := HSZ.out _ hmem
      have HT := Lib.hid hts
      clear hts hc
      generalize l[k] = x at *
      obtain ⟨z, dat⟩ := x
      dsimp only at d0 d1 hxs
      by_cases hbad : badZ N (z, dat)
      · have hw2 : whyZ N fr n m l = 2 := if_pos ⟨_, hmem, hbad⟩
        have HW := Lib.hid hw2
        clear hw2 hmem
        by_cases h1 : z < 0
        · have e1 : decide (z < 0) = true := decide_eq_true h1
          clear h1 hbad
          go_wp2_with fail
          go_ret
          exact ⟨by rw [HW.out]; rfl, rfl⟩
        · have e1 : decide (z < 0) = false := decide_eq_false h1
          by_cases h2 : (N : Int) ≤ z
          · have e2 : decide (z ≥ (N : Int)) = true := decide_eq_true h2
            clear h1 h2 hbad
            go_wp2_with fail
            go_ret
            exact ⟨by rw [HW.out]; rfl, rfl⟩
          · have e2 : decide (z ≥ (N : Int)) = false := decide_eq_false h2
            have h3 : dat.size ≠ 64 := by rcases hbad with h | h | h; exact absurd h h1; exact absurd h h2; exact h
            have e3 : ((dat.size : Int) == 64) = false := by simp; omega
            have e4 : ((dat.size : Int) != 64) = true := by simp; omega
            clear h1 h2 h3 hbad
            go_wp2_with fail
            go_ret
            exact ⟨by rw [HW.out]; rfl, rfl⟩
      · have h1 : ¬ z < 0 := fun e => hbad (.inl e)
        have h2 : ¬ (N : Int) ≤ z := fun e => hbad (.inr (.inl e))
        have h3 : dat.size = 64 := Decidable.of_not_not (fun e => hbad (.inr (.inr e)))
        have e1 : decide (z < 0) = false := decide_eq_false h1
        have e2 : decide (z ≥ (N : Int)) = false := decide_eq_false h2
        have e3 : ((dat.size : Int) == 64) = true := by simp; omega
        have e4 : ((dat.size : Int) != 64) = false := by simp; omega
        have HNX : Hid (∀ x ∈ l.take (k + 1), ¬ badZ N x) := Lib.hid (by
          rw [HT.out]
          intro x hx
          rcases List.mem_append.1 hx with hx | hx
          · exact HB.out x hx
          · rw [List.mem_singleton] at hx
            rw [hx]; exact hbad)
        clear h1 h2 h3 hbad hmem
        go_wp2_with fail
        go_roundw
        case rel => exact ⟨k + 1, by omega, by go_num, HNX, trivial⟩
        case measure => simp [intOf]; omega
    · obtain rfl : k = l.length := by omega
      rw [List.take_of_length_le (Nat.le_refl _)] at HB
      go_wp2_with fail
      go_loopw [10] (fun v10 wq => ∃ k : Nat, k ≤ l.length ∧ v10 = .int .i64 k ∧ Hid (∀ x ∈ l.take k, ¬ inZ fr n x) ∧ wq = wr) (fun v10 _ => l.length - (intOf v10).toNat)
      case atStart => exact ⟨0, Nat.zero_le _, rfl, Lib.hid (by simp), rfl⟩
      case round =>
        obtain ⟨k, hk, rfl, HI, rfl⟩ := hrel
        by_cases hlt : k < l.length
        · obtain ⟨b, off, rfl, hb, hc⟩ := HV.out (by omega)
          obtain ⟨d0, d1⟩ := hc k hlt
          rw [List.getD_eq_getElem?_getD, List.getElem?_eq_getElem hlt, Option.getD_some] at d0 d1
          have hts : l.take (k + 1) = l.take k ++ [l[k]] := List.take_succ_eq_append_getElem hlt
          have hmem : l[k] ∈ l := List.getElem_mem hlt
          have HT := Lib.hid hts
          clear hts hc
          generalize l[k] = x at *
          obtain ⟨z, dat⟩ := x
          dsimp only at d0 d1
          by_cases h1 : (fr : Int) ≤ z
          · have e1 : decide (z ≥ (fr : Int)) = true := decide_eq_true h1
            by_cases h2 : z < (fr : Int) + n
            · have e2 : decide (z < (fr : Int) + (n : Int)) = true := decide_eq_true h2
              have hw2 : whyZ N fr n m l = 40 := (if_neg (fun ⟨x, hx, hb⟩ => HB.out x hx hb)).trans (if_pos ⟨_, hmem, h1, h2⟩)
              have HW := Lib.hid hw2
              clear hw2 hmem h1 h2
              go_wp2_with fail
              go_ret
              exact ⟨by rw [HW.out]; rfl, rfl⟩
            · have e2 : decide (z < (fr : Int) + (n : Int)) = false := decide_eq_false h2
              have HNX : Hid (∀ x ∈ l.take (k + 1), ¬ inZ fr n x) := Lib.hid (by
                rw [HT.out]
                intro x hx
                rcases List.mem_append.1 hx with hx | hx
                · exact HI.out x hx
                · rw [List.mem_singleton] at hx
                  rw [hx]; exact fun h => h2 h.2)
              clear h1 h2 hmem
              go_wp2_with fail
              go_roundw
              case rel => exact ⟨k + 1, by omega, by go_num, HNX, trivial⟩
              case measure => simp [intOf]; omega
          · have e1 : decide (z ≥ (fr : Int)) = false := decide_eq_false h1
            have HNX : Hid (∀ x ∈ l.take (k + 1), ¬ inZ fr n x) := Lib.hid (by
              rw [HT.out]
              intro x hx
              rcases List.mem_append.1 hx with hx | hx
              · exact HI.out x hx
              · rw [List.mem_singleton] at hx
                rw [hx]; exact fun h => h1 h.1)
            clear h1 hmem
            go_wp2_with fail
            go_roundw
            case rel => exact ⟨k + 1, by omega, by go_num, HNX, trivial⟩
            case measure => simp [intOf]; omega
        · obtain rfl : k = l.length := by omega
          rw [List.take_of_length_le (Nat.le_refl _)] at HI
          have hw0 : whyZ N fr n m l = if m < l.length then 4 else 0 := (if_neg (fun ⟨x, hx, hb⟩ => HB.out x hx hb)).trans (if_neg (fun ⟨x, hx, hb⟩ => HI.out x hx hb))
          by_cases h4 : m < l.length
          · rw [if_pos h4] at hw0
            have HW := Lib.hid hw0
            have e4 : decide (m < l.length) = true := decide_eq_true h4
            clear hw0 h4
            go_wp2_with fail
            refine HM.out.mono ?_
            rintro e w3 ⟨rfl, rfl⟩
            go_wp2_with fail
            go_ret
            exact ⟨by rw [HW.out]; rfl, rfl⟩
          · rw [if_neg h4] at hw0
            have HW := Lib.hid hw0
            have e4 : decide (m < l.length) = false := decide_eq_false h4
            clear hw0 h4
            go_wp2_with fail
            refine HM.out.mono ?_
            rintro e w3 ⟨rfl, rfl⟩
            go_wp2_with fail
            go_ret
            exact ⟨by rw [HW.out]; rfl, rfl⟩
end
end Go.Proofs.Ytjjphcnoegaimaa
