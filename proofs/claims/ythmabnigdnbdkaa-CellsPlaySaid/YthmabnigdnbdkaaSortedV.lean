/- slices.Sort and slices.Sorted of a map's keys. -/
import Derived.Test.YthmabnigdnbdkaaSortedU
import Derived.Test.YthmabnigdnbdkaaSortQ
namespace Go.Proofs.Ythmabnigdnbdkaa
open Go.RowKit Go.Maps
set_option maxRecDepth 20000

set_option maxHeartbeats 1000000 in
theorem sort_any {w : World} {g cap : Nat} {d : Array Int} (h : URow w g cap d) (hz : d.size ≤ 255) :
    Calls Try.prog 70 #[.slice (some ⟨g, 0, none⟩) d.size cap] w fun e w' => e = .returned (.tuple #[]) ∧ (∃ D, URow w' g cap D ∧ Sort.PermIn 0 d.size d D ∧ Sort.SortedIn Sort.ltInt 0 d.size D) ∧ Fr (· = g) w w' := by
  go_enter Try.func70, Try.ntmps70
  go_wp2_with fail
  refine (len_any d.size (by omega) (by omega) w).mono ?_
  rintro e w1 ⟨n, h2, h3, rfl, rfl⟩
  go_wp2_with fail
  refine (pdq_any d.size h hz 0 d.size n (Nat.zero_le _) (Nat.le_refl _) (Nat.sub_zero _) (.inl rfl)).mono ?_
  rintro e w2 ⟨rfl, h4, h5⟩
  go_wp2_with fail
  go_end0
  exact ⟨rfl, h4, h5⟩

/-- What a sorted row of whole numbers is. -/
theorem sorted_list (ss : List Int) {d : Array Int} (h1 : Sort.PermIn 0 ss.length ss.toArray d) (hsort : Sort.SortedIn Sort.ltInt 0 ss.length d) : d.toList = ss.mergeSort (fun x y => decide (x ≤ y)) := by
  obtain ⟨hz, _, hp⟩ := h1
  have hz' : d.size = ss.length := by simpa using hz
  have e1 : (d.extract 0 ss.length) = d := by rw [← hz']; simp
  have e2 : (ss.toArray.extract 0 ss.length) = ss.toArray := by simp
  rw [e1, e2] at hp
  have tr : ∀ a b c : Int, (decide (a ≤ b)) = true → (decide (b ≤ c)) = true → (decide (a ≤ c)) = true := fun a b c h1 h2 => by simp only [decide_eq_true_eq] at *; omega
  have tot : ∀ a b : Int, (decide (a ≤ b) || decide (b ≤ a)) = true := fun a b => by simp only [Bool.or_eq_true, decide_eq_true_eq]; omega
  refine List.Perm.eq_of_pairwise (le := fun a b => decide (a ≤ b) = true) (fun a b _ _ h1 h2 => ?_) ?_ (List.pairwise_mergeSort tr tot ss) (hp.trans (List.mergeSort_perm ss _).symm)
  · simp only [decide_eq_true_eq] at h1 h2; omega
  · rw [List.pairwise_iff_getElem]
    intro i j hi hj hij
    have := hsort i j (Nat.zero_le _) hij (by simpa [hz'] using hj)
    have hi' : i < d.size := by simpa using hi
    have hj' : j < d.size := by simpa using hj
    simp only [Sort.ltInt, getElem!_pos d i hi', getElem!_pos d j hj', decide_eq_false_iff_not] at this
    simp only [Array.getElem_toList, decide_eq_true_eq]
    omega

set_option maxHeartbeats 1000000 in
/-- slices.Sorted(maps.Keys(m)). -/
theorem sorted_any (Bm b : Nat) (L : List (Int × Value)) (hL : L.length ≤ 255) (w : World) (hBm : Bm < w.heap.size)
    (hm : w.cell? ⟨Bm, 0, none⟩ = some (.map (some b))) (hmap : MapS w b .u64 L) :
    Calls Try.prog 54 #[.func (.func 71) #[] #[.pointer (some ⟨Bm, 0, none⟩)]] w fun e w' => ∃ (v : Value) (ts : List Int), e = .returned v ∧ ts = (L.map Prod.fst).mergeSort (fun x y => decide (x ≤ y)) ∧
      w'.ownsRow w.heap.size 30 1 v ts.length (ts.map (Value.int .u64)) ∧ Below w.heap.size w w' := by
  go_enter Try.func54, Try.ntmps54
  go_wp2_with fail
  refine (collect_keys Bm b L (by omega) w hBm hm hmap).mono ?_
  rintro e w1 ⟨v, ss, rfl, hp, hrow, hnil, hB⟩
  have hlen : ss.length ≤ 255 := by rw [hp.length_eq]; simpa using hL
  have hms : (L.map Prod.fst).mergeSort (fun x y => decide (x ≤ y)) = ss.mergeSort (fun x y => decide (x ≤ y)) := (msort_perm hp).symm
  have HM := Lib.hid hms
  clear hms
  rcases hrow.2 with ⟨rfl, h0⟩ | ⟨g, cap, cur, rfl, hr⟩
  · have h0' : ss = [] := List.eq_nil_of_length_eq_zero h0
    subst h0'
    go_wp2_with fail
    refine (sort_none w1).mono ?_
    rintro e w2 ⟨rfl, rfl⟩
    go_wp2_with fail
    go_ret
    exact ⟨_, [], rfl, by rw [HM.out]; simp, hrow, hB⟩
  · clear hr
    obtain ⟨hu, hg, hc⟩ := urow_of hrow
    have hsz : ss.toArray.size = ss.length := by simp
    have hS := sort_any hu (by simpa using hlen)
    rw [hsz] at hS
    have HS := Lib.hid hS
    clear hS hsz
    go_wp2_with fail
    refine HS.out.mono ?_
    rintro e w2 ⟨rfl, ⟨D, h1, h3, h4⟩, h2⟩
    have hD := sorted_list ss h3 h4
    have HD := Lib.hid hD
    clear h3 h4 hD
    go_wp2_with fail
    go_ret
    have hb := urow_back (base := w.heap.size) h1 HD.out hg hc
    have e1 : (ss.mergeSort (fun x y => decide (x ≤ y))).length = ss.length := List.length_mergeSort _
    rw [e1] at hb
    exact ⟨_, _, rfl, HM.out.symm, by rw [e1]; exact hb, Fr.step hB h2 hB.size (fun k hk => by omega)⟩
end Go.Proofs.Ythmabnigdnbdkaa
