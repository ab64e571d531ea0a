/- The walks through crc.Open and the reference's. -/
import Derived.Test.YtgipenibjmijoaaCrcSeal
namespace Go.Proofs.Ytgipenibjmijoaa
open Go.RowKit

/-- What opens. -/
def opened (l : List UInt8) : List UInt8 × Int :=
  if l.length < 4 then ([], 6) else if sealed (l.take (l.length - 4)) = l then (l.take (l.length - 4), 0) else ([], 7)

theorem bs_take (l : List UInt8) (k : Nat) : (bs l).extract 0 k = bs (l.take k) := by
  apply ByteArray.ext
  simp [bs, ByteArray.data_extract]

theorem bs_toList (l : List UInt8) : (bs l).toList = l := by rw [Go.ByteArray.toList_eq]; simp [bs]
theorem bs_eq {a b : List UInt8} (h : a = b) : ((bs a).toList == (bs b).toList) = true := by rw [h]; simp
theorem bs_ne {a b : List UInt8} (h : ¬ a = b) : ((bs a).toList == (bs b).toList) = false := by
  rw [bs_toList, bs_toList]; simpa using h

set_option maxHeartbeats 400000 in
theorem open_any (l : List UInt8) (hl : l.length ≤ maxLen) (w : World) :
    Calls Try.prog 8 #[.string (bs l)] w fun e w' => e = .returned (.tuple #[.string (bs (opened l).1), .int .i64 (opened l).2]) ∧ Below w.heap.size w w' := by
  unfold maxLen at hl
  have hs : (bs l).size = l.length := bs_size l
  by_cases h4 : l.length < 4
  · have e : opened l = ([], 6) := by rw [opened, if_pos h4]
    rw [e]
    go_enter Try.func8, Try.ntmps8
    go_wp2_with fail
    go_ret2
    exact ⟨rfl, Below.refl _ _⟩
  · have ht := bs_take l (l.length - 4)
    have hd := bs_data (l.take (l.length - 4))
    have htl : (l.take (l.length - 4)).length ≤ l.length - 4 := List.length_take_le _ _
    by_cases he : sealed (l.take (l.length - 4)) = l
    · have e : opened l = (l.take (l.length - 4), 0) := by rw [opened, if_neg h4, if_pos he]
      rw [e]
      have HE := Lib.hid he
      clear he e
      go_enter Try.func8, Try.ntmps8
      go_wp2_with fail
      refine (seal_any _ (by rw [bs_size]; unfold maxLen; omega) _).mono ?_
      rintro e w1 ⟨rfl, hB⟩
      rw [hd, HE.out]
      go_wp2_with fail
      go_ret2
      exact ⟨rfl, hB⟩
    · have e : opened l = ([], 7) := by rw [opened, if_neg h4, if_neg he]
      rw [e]
      have HE := Lib.hid he
      clear he e
      go_enter Try.func8, Try.ntmps8
      go_wp2_with fail
      refine (seal_any _ (by rw [bs_size]; unfold maxLen; omega) _).mono ?_
      rintro e w1 ⟨rfl, hB⟩
      rw [hd]
      have hq := bs_ne HE.out
      go_wp2_with fail
      go_ret2
      exact ⟨rfl, hB⟩

set_option maxHeartbeats 400000 in
theorem refOpen_any (l : List UInt8) (hl : l.length ≤ maxLen) (w : World) :
    Calls Try.prog 9 #[.string (bs l)] w fun e w' => e = .returned (.tuple #[.string (bs (opened l).1), .int .i64 (opened l).2]) ∧ Below w.heap.size w w' := by
  unfold maxLen at hl
  have hs : (bs l).size = l.length := bs_size l
  by_cases h4 : l.length < 4
  · have e : opened l = ([], 6) := by rw [opened, if_pos h4]
    rw [e]
    go_enter Try.func9, Try.ntmps9
    go_wp2_with fail
    go_ret2
    exact ⟨rfl, Below.refl _ _⟩
  · have ht := bs_take l (l.length - 4)
    have hd := bs_data (l.take (l.length - 4))
    have htl : (l.take (l.length - 4)).length ≤ l.length - 4 := List.length_take_le _ _
    by_cases he : sealed (l.take (l.length - 4)) = l
    · have e : opened l = (l.take (l.length - 4), 0) := by rw [opened, if_neg h4, if_pos he]
      rw [e]
      have HE := Lib.hid he
      clear he e
      go_enter Try.func9, Try.ntmps9
      go_wp2_with fail
      refine (refSeal_any _ (by rw [bs_size]; unfold maxLen; omega) _).mono ?_
      rintro e w1 ⟨rfl, hB⟩
      rw [hd, HE.out]
      go_wp2_with fail
      go_ret2
      exact ⟨rfl, hB⟩
    · have e : opened l = ([], 7) := by rw [opened, if_neg h4, if_neg he]
      rw [e]
      have HE := Lib.hid he
      clear he e
      go_enter Try.func9, Try.ntmps9
      go_wp2_with fail
      refine (refSeal_any _ (by rw [bs_size]; unfold maxLen; omega) _).mono ?_
      rintro e w1 ⟨rfl, hB⟩
      rw [hd]
      have hq := bs_ne HE.out
      go_wp2_with fail
      go_ret2
      exact ⟨rfl, hB⟩
end Go.Proofs.Ytgipenibjmijoaa
