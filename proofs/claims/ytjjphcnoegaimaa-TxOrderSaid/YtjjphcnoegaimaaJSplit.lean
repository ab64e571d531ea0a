/- octet.Split: a text in parts of 64 bytes. -/
import Derived.Test.YtjjphcnoegaimaaJHead
import Derived.Deep.AppendLies
namespace Go.Proofs.Ytjjphcnoegaimaa
open Go.RowKit Go.Shelf
set_option maxRecDepth 20000

/-- A text's first parts. -/
def partsK (L : List UInt8) (k : Nat) : List ByteArray := (List.range k).map fun p => bs (partP L p)
theorem partsK_succ (L : List UInt8) (k : Nat) : partsK L (k + 1) = partsK L k ++ [bs (partP L k)] := by simp [partsK, List.range_succ]
theorem partsK_length (L : List UInt8) (k : Nat) : (partsK L k).length = k := by simp [partsK]
structure SpI (w : World) (L : List UInt8) (k : Nat) (v : Value) (W : World) : Prop where
  row : W.ownsRow w.heap.size 9 1 v k (sv (partsK L k))
  below : Below w.heap.size w W
theorem SpI.of {w W W' : World} {L : List UInt8} {k : Nat} {v : Value} (h : SpI w L k v W) (hB : Below W.heap.size W W') : SpI w L k v W' := by
  refine ⟨?_, bt h.below hB⟩
  obtain ⟨hl, hr⟩ := h.row
  refine ⟨hl, ?_⟩
  rcases hr with h' | ⟨g, cap, cur, rfl, h0, hh, hr⟩
  · exact .inl h'
  · exact .inr ⟨g, cap, cur, rfl, h0, (hB.block g (blk_lt hh)).trans hh, hr⟩
theorem SpI.step {w W W1 : World} {L : List UInt8} {k : Nat} {v v' : Value} (h : SpI w L k v W) (hown : W1.ownsRow w.heap.size 9 1 v' (k + 1) (sv (partsK L k) ++ [.string (bs (partP L k))])) (hg : W.grownBy W1 v.ownBlock) : SpI w L (k + 1) v' W1 := by
  refine ⟨?_, h.below.grown hg h.below.size (fun g e => ?_)⟩
  · rw [partsK_succ]
    have e : sv (partsK L k ++ [bs (partP L k)]) = sv (partsK L k) ++ [Value.string (bs (partP L k))] := by simp [sv]
    rw [e]
    exact hown
  · rcases h.row.2 with ⟨rfl, _⟩ | ⟨g', c, cur, rfl, h0, _⟩
    · cases e
    · cases e; exact h0

def strSize : Value → Nat
  | .string s => s.size
  | _ => 0
set_option maxHeartbeats 4000000 in
theorem split_any (L : List UInt8) (hL : L.length ≤ 10000) (w : World) : Calls Try.prog 95 #[.string (bs L), .int .i64 64] w fun e w' => ∃ v, e = .returned (.tuple #[v, .int .i64 0]) ∧ SpI w L ((L.length + 63) / 64) v w' := by
  obtain ⟨i0, ii, hz0, hz1, hz2⟩ := infoStr
  go_enter Try.func95, Try.ntmps95
  go_wp2_with fail
  go_loopw [0, 4, 6] (fun v0 v4 _ wr => ∃ k : Nat, 64 * k < L.length + 64 ∧ v0 = .string (bs (L.drop (64 * k))) ∧ SpI w L k v4 wr) (fun v0 _ _ _ => strSize v0)
  case atStart => exact ⟨0, by omega, rfl, World.ownsRow_nil _ _ _ _, Below.refl _ _⟩
  case round =>
    obtain ⟨k, hk, rfl, hI⟩ := hrel
    obtain ⟨r, hr⟩ : ∃ r, L.drop (64 * k) = r := ⟨_, rfl⟩
    have hrl : r.length = L.length - 64 * k := by rw [← hr]; simp
    rw [hr]
    by_cases hn : r = []
    · subst hn
      have e1 : (bs []).toList = [] := bs_toList' []
      have e2 : (bs []).toList.isEmpty = true := by rw [e1]; rfl
      have hkk : k = (L.length + 63) / 64 := by simp at hrl; omega
      have HK := Lib.hid hkk
      clear hkk hrl hr hk
      go_wp2_with fail
      go_ret2
      exact ⟨_, rfl, by rw [← HK.out]; exact hI⟩
    · have hpos : 0 < r.length := List.length_pos_iff.2 hn
      have e1 : (bs r).toList.isEmpty = false := by rw [bs_toList']; simpa using hn
      have hsz := bs_size r
      obtain ⟨q, hq⟩ : ∃ q : Nat, (min (64 : Int) (r.length : Int)) = (q : Int) := ⟨min 64 r.length, by omega⟩
      have hq1 : q ≤ r.length := by omega
      have hq0 : 0 < q := by omega
      have x1 : (bs r).extract 0 q = bs (partP L k) := by
        rw [bs_take', partP, hr]
        congr 1
        by_cases h : r.length ≤ 64
        · rw [List.take_of_length_le (by omega), List.take_of_length_le h]
        · rw [show q = 64 by omega]
      have x2 : (bs r).extract q r.length = bs (L.drop (64 * (k + 1))) := by
        rw [bs_extract, List.take_of_length_le (Nat.le_refl _)]
        congr 1
        rw [← hr, List.drop_drop]
        by_cases h : r.length ≤ 64
        · rw [List.drop_of_length_le (by omega), List.drop_of_length_le (by omega)]
        · congr 1
          omega
      have hone : ∀ u ∈ [Value.string (bs (partP L k))], u.oneCell' = true := by simp [Value.oneCell']
      have h63 : k + 1 ≤ maxLen := by unfold maxLen; omega
      have hby : (k + 1) * 16 ≤ 140737488355328 := by omega
      have hI2 := hI.of ((Below.refl wr.heap.size wr).drew)
      have HI3 := Lib.hid (hI2.of (bnew _ (.cells #[.string (bs (partP L k))] 9)))
      have HM : Hid ((bs (L.drop (64 * (k + 1)))).size < (bs r).size) := Lib.hid (by rw [bs_size, bs_size, List.length_drop, ← hr, List.length_drop]; omega)
      have HK : Hid (64 * (k + 1) < L.length + 64) := Lib.hid (by omega)
      have X1 := Lib.hid x1
      have X2 := Lib.hid x2
      have HR := Lib.hid hr
      clear hI hI2 hn hk hrl hr hL
      go_wp2_with fail
      go_region_law (first | ((refine step_append_lies _ (by rfl) (.tmp 15) (.tmp 19) 42 (by rfl) w.heap.size 9 i0 (.string ByteArray.empty) 1 16 Try.underlying42 ii hz0 hz1 hz2 (by rfl) (by decide) _ k (sv (partsK L k)) (by rfl) HI3.out.row ⟨_, 0, none⟩ 1 1 [.string (bs (partP L k))] (by rfl) (by rfl) (World.news_of_block (by first | exact hp_new _ _ rfl | exact hp_new _ _ (by simp))) hone (by decide) h63 hby (by have := HI3.out.below.size; exact this) _ rfl ?_); intro g cap w1 hown hgrow hlie hglt; have hst := Lib.hid (SpI.step HI3.out hown hgrow)))
      all_goals
        simp only [List.getElem_toArray, List.getElem_cons_succ, List.getElem_cons_zero, Act.put, List.setIfInBounds_toArray, List.set_cons_succ, List.set_cons_zero]
        go_wp2_with fail
        go_roundw
        case rel => exact ⟨k + 1, HK.out, rfl, hst.out⟩
        case measure => exact HM.out
end Go.Proofs.Ytjjphcnoegaimaa
