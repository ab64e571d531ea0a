/- slices.Sort and slices.Sorted of a map's keys, where they are few. -/
import Derived.Test.YthmabnigdnbdkaaKeysU
import Derived.Test.YthmabnigdnbdkaaBase
namespace Go.Proofs.Ythmabnigdnbdkaa
open Go.RowKit Go.Maps
set_option maxRecDepth 20000

/-- Some number of bits. -/
def SomeBits (w : World) (e : Ending) (w' : World) : Prop := ∃ n : Int, 0 ≤ n ∧ n ≤ 1000 ∧ e = .returned (.int .i64 n) ∧ w = w'
theorem byte_wrap (b : UInt8) (k : Int) (h0 : 0 ≤ k) (h1 : k ≤ 100) : 0 ≤ wrap64 (k + wrap64 (b.toNat : Int)) ∧ wrap64 (k + wrap64 (b.toNat : Int)) ≤ 1000 := by
  have := b.toNat_lt
  simp only [wrap64]
  omega
theorem byte_wrap0 (b : UInt8) : 0 ≤ wrap64 (wrap64 (b.toNat : Int)) ∧ wrap64 (wrap64 (b.toNat : Int)) ≤ 1000 := by
  have := b.toNat_lt
  simp only [wrap64]
  omega
set_option maxHeartbeats 1000000 in
theorem len64_any (x : Int) (h0 : 0 ≤ x) (h1 : x ≤ 1000000) (w : World) : Calls Try.prog 87 #[.int .u64 x] w (SomeBits w) := by
  go_enter Try.func87, Try.ntmps87
  by_cases h2 : x < 65536
  · by_cases h3 : x < 256
    · go_wp2_with fail
      go_ret
      exact ⟨_, (byte_wrap0 _).1, (byte_wrap0 _).2, rfl, rfl⟩
    · go_wp2_with fail
      go_ret
      exact ⟨_, (byte_wrap _ _ (by decide) (by decide)).1, (byte_wrap _ _ (by decide) (by decide)).2, rfl, rfl⟩
  · go_wp2_with fail
    go_ret
    exact ⟨_, (byte_wrap _ _ (by decide) (by decide)).1, (byte_wrap _ _ (by decide) (by decide)).2, rfl, rfl⟩
theorem len_any (x : Int) (h0 : 0 ≤ x) (h1 : x ≤ 1000000) (w : World) : Calls Try.prog 76 #[.int .u64 x] w (SomeBits w) := by
  go_enter Try.func76, Try.ntmps76
  go_wp2_with fail
  refine (len64_any _ h0 h1 w).mono ?_
  rintro e w' ⟨n, h2, h3, rfl, rfl⟩
  go_wp2_with fail
  go_ret
  exact ⟨_, h2, h3, rfl, rfl⟩

set_option maxHeartbeats 1000000 in
theorem pdq_few {w : World} {g cap : Nat} {d : Array Int} (h : URow w g cap d) (hz : d.size ≤ 12) (lim : Int) :
    Calls Try.prog 75 #[.slice (some ⟨g, 0, none⟩) d.size cap, .int .i64 0, .int .i64 d.size, .int .i64 lim] w fun e w' => e = .returned (.tuple #[]) ∧ URow w' g cap (Sort.insertionSort Sort.ltInt d 0 d.size) ∧ Fr (· = g) w w' := by
  have hw : IntKind.i64.wrap (d.size : Int) = d.size := IntWalk.i64_in _ (by omega)
  go_enter Try.func75, Try.ntmps75
  go_wp2_with fail
  refine wp_loop_rounds 1 ?_
  rw [rounds_succ]
  go_wp2_with fail
  refine (insort_any h (by omega) 0 d.size (Nat.le_refl _) (Nat.zero_le _)).mono ?_
  rintro e w1 ⟨rfl, h1, h2⟩
  go_wp2_with fail
  exact bodyPost_ret (results_none rfl _ _ _) rfl ⟨rfl, h1, h2⟩

theorem insort_none (w : World) : Calls Try.prog 77 #[.slice none 0 0, .int .i64 0, .int .i64 0] w fun e w' => e = .returned (.tuple #[]) ∧ w = w' := by
  go_enter Try.func77, Try.ntmps77
  go_wp2_with fail
  refine wp_loop_rounds 1 ?_
  rw [rounds_succ]
  go_wp2_with fail
  go_end0
  exact ⟨rfl, rfl⟩
theorem pdq_none (w : World) (lim : Int) : Calls Try.prog 75 #[.slice none 0 0, .int .i64 0, .int .i64 0, .int .i64 lim] w fun e w' => e = .returned (.tuple #[]) ∧ w = w' := by
  go_enter Try.func75, Try.ntmps75
  go_wp2_with fail
  refine wp_loop_rounds 1 ?_
  rw [rounds_succ]
  go_wp2_with fail
  refine (insort_none w).mono ?_
  rintro e w1 ⟨rfl, rfl⟩
  go_wp2_with fail
  exact bodyPost_ret (results_none rfl _ _ _) rfl ⟨rfl, rfl⟩

set_option maxHeartbeats 1000000 in
theorem sort_few {w : World} {g cap : Nat} {d : Array Int} (h : URow w g cap d) (hz : d.size ≤ 12) :
    Calls Try.prog 70 #[.slice (some ⟨g, 0, none⟩) d.size cap] w fun e w' => e = .returned (.tuple #[]) ∧ URow w' g cap (Sort.insertionSort Sort.ltInt d 0 d.size) ∧ Fr (· = g) w w' := by
  go_enter Try.func70, Try.ntmps70
  go_wp2_with fail
  refine (len_any d.size (by omega) (by omega) w).mono ?_
  rintro e w1 ⟨n, h2, h3, rfl, rfl⟩
  go_wp2_with fail
  refine (pdq_few h hz n).mono ?_
  rintro e w2 ⟨rfl, h4, h5⟩
  go_wp2_with fail
  go_end0
  exact ⟨rfl, h4, h5⟩

set_option maxHeartbeats 1000000 in
theorem sort_none (w : World) : Calls Try.prog 70 #[.slice none 0 0] w fun e w' => e = .returned (.tuple #[]) ∧ w = w' := by
  go_enter Try.func70, Try.ntmps70
  go_wp2_with fail
  refine (len_any 0 (by omega) (by omega) w).mono ?_
  rintro e w1 ⟨n, h2, h3, rfl, rfl⟩
  go_wp2_with fail
  refine (pdq_none w n).mono ?_
  rintro e w2 ⟨rfl, rfl⟩
  go_wp2_with fail
  go_end0
  exact ⟨rfl, rfl⟩

theorem msort_perm {l l' : List Int} (h : l.Perm l') : l.mergeSort (fun x y => decide (x ≤ y)) = l'.mergeSort (fun x y => decide (x ≤ y)) := by
  have tr : ∀ a b c : Int, (decide (a ≤ b)) = true → (decide (b ≤ c)) = true → (decide (a ≤ c)) = true := fun a b c h1 h2 => by simp only [decide_eq_true_eq] at *; omega
  have to : ∀ a b : Int, (decide (a ≤ b) || decide (b ≤ a)) = true := fun a b => by simp only [Bool.or_eq_true, decide_eq_true_eq]; omega
  refine List.Perm.eq_of_pairwise (le := fun a b => decide (a ≤ b) = true) (fun a b _ _ h1 h2 => ?_) (List.pairwise_mergeSort tr to l) (List.pairwise_mergeSort tr to l') (((List.mergeSort_perm l _).trans h).trans (List.mergeSort_perm l' _).symm)
  simp only [decide_eq_true_eq] at h1 h2; omega
/-- What a sorted row of whole numbers is. -/
theorem insort_list (ss : List Int) : (Sort.insertionSort Sort.ltInt ss.toArray 0 ss.length).toList = ss.mergeSort (fun x y => decide (x ≤ y)) := by
  have hs := Sort.insertionSort_holds (lt := Sort.ltInt) Sort.swo_ltInt ss.toArray 0 ss.length (Nat.zero_le _) (by simp)
  obtain ⟨⟨hz, _, hp⟩, hsort⟩ := hs
  generalize Sort.insertionSort Sort.ltInt ss.toArray 0 ss.length = d at hz hp hsort
  have hz' : d.size = ss.length := by simpa using hz
  have e1 : (d.extract 0 ss.length) = d := by rw [← hz']; simp
  have e2 : (ss.toArray.extract 0 ss.length) = ss.toArray := by simp
  rw [e1, e2] at hp
  have tr : ∀ a b c : Int, (decide (a ≤ b)) = true → (decide (b ≤ c)) = true → (decide (a ≤ c)) = true := fun a b c h1 h2 => by simp only [decide_eq_true_eq] at *; omega
  have to : ∀ a b : Int, (decide (a ≤ b) || decide (b ≤ a)) = true := fun a b => by simp only [Bool.or_eq_true, decide_eq_true_eq]; omega
  refine List.Perm.eq_of_pairwise (le := fun a b => decide (a ≤ b) = true) (fun a b _ _ h1 h2 => ?_) ?_ (List.pairwise_mergeSort tr to ss) (hp.trans (List.mergeSort_perm ss _).symm)
  · simp only [decide_eq_true_eq] at h1 h2; omega
  · rw [List.pairwise_iff_getElem]
    intro i j hi hj hij
    have := hsort i j (Nat.zero_le _) hij (by simpa [hz'] using hj)
    have hi' : i < d.size := by simpa using hi
    have hj' : j < d.size := by simpa using hj
    simp only [Sort.ltInt, getElem!_pos d i hi', getElem!_pos d j hj', decide_eq_false_iff_not] at this
    simp only [Array.getElem_toList, decide_eq_true_eq]
    omega

/-- An own row as a row of numbers, and back. -/
theorem urow_of {W : World} {base g cap : Nat} {ss : List Int} (h : W.ownsRow base 30 1 (.slice (some ⟨g, 0, none⟩) ss.length cap) ss.length (ss.map (Value.int .u64))) : URow W g cap ss.toArray ∧ base ≤ g ∧ cap ≤ maxLen := by
  rcases h.2 with ⟨e, _⟩ | ⟨g', cap', cur, e, h0, hb, h1, h2, h3, h4⟩
  · cases e
  · cases e
    refine ⟨⟨cur, hb, by omega, by simpa using h1, fun i hi => ?_⟩, h0, h2⟩
    have hi' : i < ss.length := by simpa using hi
    have := congrArg (fun l => l[i]?) h4
    rw [Nat.mul_one] at this
    simp only [List.getElem?_take_of_lt hi', List.getElem?_map, Array.getElem?_toList] at this
    rw [this]
    simp [hi']
theorem urow_back {W : World} {base g cap : Nat} {d : Array Int} {ts : List Int} (h : URow W g cap d) (hd : d.toList = ts) (hb : base ≤ g) (hc : cap ≤ maxLen) : W.ownsRow base 30 1 (.slice (some ⟨g, 0, none⟩) ts.length cap) ts.length (ts.map (Value.int .u64)) := by
  obtain ⟨cur, hh, h1, h2, h3⟩ := h
  subst hd
  refine ⟨by simp, .inr ⟨g, cap, cur, rfl, hb, hh, by simpa using h2, hc, by omega, ?_⟩⟩
  apply List.ext_getElem?
  intro i
  simp only [Array.length_toList, Nat.mul_one]
  by_cases hi : i < d.size
  · rw [List.getElem?_take_of_lt hi, Array.getElem?_toList, h3 i hi]
    simp [hi]
  · rw [List.getElem?_take_eq_none (by omega), List.getElem?_eq_none (by simp; omega)]

set_option maxHeartbeats 1000000 in
/-- slices.Sorted(maps.Keys(m)), where the keys are few. -/
theorem sorted_few (Bm b : Nat) (L : List (Int × Value)) (hL : L.length ≤ 12) (w : World) (hBm : Bm < w.heap.size)
    (hm : w.cell? ⟨Bm, 0, none⟩ = some (.map (some b))) (hmap : MapS w b .u64 L) :
    Calls Try.prog 54 #[.func (.func 71) #[] #[.pointer (some ⟨Bm, 0, none⟩)]] w fun e w' => ∃ (v : Value) (ts : List Int), e = .returned v ∧ ts = (L.map Prod.fst).mergeSort (fun x y => decide (x ≤ y)) ∧
      w'.ownsRow w.heap.size 30 1 v ts.length (ts.map (Value.int .u64)) ∧ Below w.heap.size w w' := by
  go_enter Try.func54, Try.ntmps54
  go_wp2_with fail
  refine (collect_keys Bm b L (by omega) w hBm hm hmap).mono ?_
  rintro e w1 ⟨v, ss, rfl, hp, hrow, hnil, hB⟩
  have hlen : ss.length ≤ 12 := by rw [hp.length_eq]; simpa using hL
  have hms : (L.map Prod.fst).mergeSort (fun x y => decide (x ≤ y)) = ss.mergeSort (fun x y => decide (x ≤ y)) := (msort_perm hp).symm
  have HM := Lib.hid hms
  clear hms
  rcases hrow.2 with ⟨rfl, h0⟩ | ⟨g, cap, cur, rfl, hr⟩
  · have h0' : ss = [] := List.eq_nil_of_length_eq_zero h0
    subst h0'
    go_wp2_with fail
    refine (sort_none w1).mono ?_
    rintro e w2 ⟨rfl, rfl⟩
    go_wp2_with fail
    go_ret
    exact ⟨_, [], rfl, by rw [HM.out]; simp, hrow, hB⟩
  · clear hr
    obtain ⟨hu, hg, hc⟩ := urow_of hrow
    have hsz : ss.toArray.size = ss.length := by simp
    have hS := sort_few hu (by simpa using hlen)
    rw [hsz] at hS
    have HS := Lib.hid hS
    clear hS hsz
    go_wp2_with fail
    refine HS.out.mono ?_
    rintro e w2 ⟨rfl, h1, h2⟩
    go_wp2_with fail
    go_ret
    have hb := urow_back (base := w.heap.size) h1 (insort_list ss) hg hc
    have e1 : (ss.mergeSort (fun x y => decide (x ≤ y))).length = ss.length := List.length_mergeSort _
    rw [e1] at hb
    exact ⟨_, _, rfl, HM.out.symm, by rw [e1]; exact hb, Fr.step hB h2 hB.size (fun k hk => by omega)⟩
end Go.Proofs.Ythmabnigdnbdkaa
