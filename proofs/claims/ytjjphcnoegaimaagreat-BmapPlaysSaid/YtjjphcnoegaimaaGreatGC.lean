/- package dev: a device of sectors in memory; the walks that only read. package dev: Read, Durable, Write. -/
import Derived.Test.YtjjphcnoegaimaaGreatGB
import Derived.Deep.RegionHeld3
import Derived.Deep.AppendLies
namespace Go.Proofs.YtjjphcnoegaimaaGreat
open Go.RowKit Go.Maps
set_option maxRecDepth 20000

/-- What a device is. -/
structure DS where
  armed : Bool
  left : Int
  dead : Bool
  hard : List ByteArray
  rows : Int → List ByteArray
  writes : Int

def sv (l : List ByteArray) : List Value := l.map Value.string
theorem sv_length (l : List ByteArray) : (sv l).length = l.length := by simp [sv]
theorem sv_get {l : List ByteArray} {i : Nat} {b : ByteArray} (h : l[i]? = some b) : (sv l)[i]? = some (.string b) := by simp [sv, h]

/-- A row of cached writes as a map's value. -/
structure RowIs (W : World) (v : Value) (l : List ByteArray) (g : Nat) : Prop where
  ex : ∃ n c, v = .agg #[.slice (some ⟨g, 0, none⟩) n c] ∧ W.ownsRow 0 9 1 (.slice (some ⟨g, 0, none⟩) n c) l.length (sv l)

/-- Where a row of cached writes lies. -/
def rblk : Value → Option Nat
  | .agg #[s] => s.ownBlock
  | _ => none
/-- The blocks of a device. -/
def dfoot (p hb m : Nat) (L : List (Int × Value)) (k : Nat) : Prop := k = p ∨ k = hb ∨ k = m ∨ ∃ x ∈ L, rblk x.2 = some k

/-- A device: at block p; its sectors at block hb; its map at block m. -/
structure DevAt (W : World) (p hb hc m : Nat) (L : List (Int × Value)) (s : DS) : Prop where
  obj : W.heap[p]? = some (.cells #[.bool s.armed, .int .i64 s.left, .bool s.dead, .slice (some ⟨hb, 0, none⟩) s.hard.length hc, .map (some m), .int .u64 s.writes] 116 (0, 0))
  hard : W.ownsRow 0 9 1 (.slice (some ⟨hb, 0, none⟩) s.hard.length hc) s.hard.length (sv s.hard)
  map : MapS W m .i64 L
  rows : ∀ x ∈ L, ∃ g c, x.2 = .agg #[.slice (some ⟨g, 0, none⟩) (s.rows x.1).length c] ∧ W.ownsRow 0 9 1 (.slice (some ⟨g, 0, none⟩) (s.rows x.1).length c) (s.rows x.1).length (sv (s.rows x.1)) ∧ s.rows x.1 ≠ [] ∧ g ≠ hb
  norow : ∀ k, k ∉ L.map Prod.fst → s.rows k = []
  apart : ∀ x ∈ L, ∀ y ∈ L, x.1 ≠ y.1 → rblk x.2 ≠ rblk y.2
  range : ∀ x ∈ L, 0 ≤ x.1 ∧ x.1 < s.hard.length
  pos : 0 < s.hard.length ∧ s.hard.length ≤ 4096

theorem mget_mem {k : Int} {v : Value} : ∀ {L : List (Int × Value)}, mget k L = some v → (k, v) ∈ L
  | [], h => by simp [mget] at h
  | (a, u) :: L, h => by
    unfold mget at h
    split at h
    · rename_i e
      cases h
      subst e
      exact List.mem_cons_self
    · exact List.mem_cons_of_mem _ (mget_mem h)
theorem mget_of_mem {k : Int} {v : Value} : ∀ {L : List (Int × Value)}, (L.map Prod.fst).Nodup → (k, v) ∈ L → mget k L = some v
  | [], _, h => by cases h
  | (a, u) :: L, hn, h => by
    simp only [List.map_cons, List.nodup_cons] at hn
    unfold mget
    rcases List.mem_cons.1 h with e | h1
    · cases e
      simp
    · have : k ≠ a := by
        rintro rfl
        exact hn.1 (List.mem_map.2 ⟨(k, v), h1, rfl⟩)
      rw [if_neg this]
      exact mget_of_mem hn.2 h1

section
variable {W W' : World} {p hb hc m : Nat} {L : List (Int × Value)} {s : DS}

theorem DevAt.lt (h : DevAt W p hb hc m L s) {k : Nat} (hk : dfoot p hb m L k) : k < W.heap.size := by
  rcases hk with rfl | rfl | rfl | ⟨x, hx, e⟩
  · exact blk_lt h.obj
  · exact ownsRow_lt h.hard rfl
  · exact h.map.lt
  · obtain ⟨g, c, e1, h1, _⟩ := h.rows x hx
    rw [e1] at e
    exact ownsRow_lt h1 e
theorem DevAt.keep (h : DevAt W p hb hc m L s) (hk : ∀ k, dfoot p hb m L k → W'.heap[k]? = W.heap[k]?) : DevAt W' p hb hc m L s := by
  refine ⟨(hk p (.inl rfl)).trans h.obj, ownsRow_of_block h.hard (fun k e => hk k (.inr (.inl (by cases e; rfl)))), h.map.of_block (hk m (.inr (.inr (.inl rfl)))), fun x hx => ?_, h.norow, h.apart, h.range, h.pos⟩
  obtain ⟨g, c, e1, h1, h2, h3⟩ := h.rows x hx
  exact ⟨g, c, e1, ownsRow_of_block h1 (fun k e => hk k (.inr (.inr (.inr ⟨x, hx, by rw [e1]; exact e⟩)))), h2, h3⟩
theorem DevAt.fr {T : Nat → Prop} (h : DevAt W p hb hc m L s) (hf : Fr T W W') (hd : ∀ k, dfoot p hb m L k → ¬ T k) : DevAt W' p hb hc m L s :=
  h.keep (fun k hk => hf.block k (h.lt hk) (hd k hk))
theorem DevAt.below (h : DevAt W p hb hc m L s) (hb' : Below W.heap.size W W') : DevAt W' p hb hc m L s := h.fr (Fr.of_below (S := fun _ => False) hb') (fun _ _ => id)
theorem DevAt.pm (h : DevAt W p hb hc m L s) : m ≠ p := by
  rintro rfl
  obtain ⟨es, c, hb, _⟩ := h.map
  rw [h.obj] at hb
  cases hb
theorem DevAt.hp (h : DevAt W p hb hc m L s) : hb ≠ p := by
  rintro rfl
  obtain ⟨cur, hb⟩ := ownsRow_type h.hard rfl
  rw [h.obj] at hb
  simp at hb
theorem DevAt.hm (h : DevAt W p hb hc m L s) : hb ≠ m := by
  rintro rfl
  obtain ⟨cur, hb⟩ := ownsRow_type h.hard rfl
  obtain ⟨es, c, hb', _⟩ := h.map
  rw [hb'] at hb
  cases hb
theorem DevAt.hardc (h : DevAt W p hb hc m L s) {i : Nat} {b : ByteArray} (hi : s.hard[i]? = some b) : W.cell? ⟨hb, i, none⟩ = some (.string b) := ownsRow_cell h.hard rfl (sv_get hi)

theorem zero_row (w : World) : (zeroValue 124).run Tryz.prog w = .ok (.agg #[.slice none 0 0]) w := by kernel_rfl
/-- What a sector's row is. -/
def rowOf (L : List (Int × Value)) (k : Int) : Value := ((mget k L).getD (.agg #[.slice none 0 0]))
theorem DevAt.look (h : DevAt W p hb hc m L s) (k : Int) : (Instr.lookup 114 (.map (some m)) (.int .i64 k) false).run Tryz.prog W = .ok (rowOf L k) W :=
  h.map.mapAt.look (t := 114) Tryz.underlying114 Tryz.underlying3 (zero_row W) k
theorem DevAt.look_ok (h : DevAt W p hb hc m L s) (k : Int) : (Instr.lookup 114 (.map (some m)) (.int .i64 k) true).run Tryz.prog W = .ok (.tuple #[rowOf L k, .bool (mget k L).isSome]) W :=
  h.map.mapAt.look_ok (t := 114) Tryz.underlying114 Tryz.underlying3 (zero_row W) k
/-- A sector without cached writes. -/
theorem DevAt.row_none (h : DevAt W p hb hc m L s) {k : Int} (hk : s.rows k = []) : mget k L = none := by
  cases e : mget k L with
  | none => rfl
  | some v =>
    obtain ⟨g, c, _, _, h2, _⟩ := h.rows _ (mget_mem e)
    exact absurd hk h2
/-- One with some. -/
theorem DevAt.row_some (h : DevAt W p hb hc m L s) {k : Int} (hk : s.rows k ≠ []) : ∃ g c, mget k L = some (.agg #[.slice (some ⟨g, 0, none⟩) (s.rows k).length c]) ∧ W.ownsRow 0 9 1 (.slice (some ⟨g, 0, none⟩) (s.rows k).length c) (s.rows k).length (sv (s.rows k)) ∧ g ≠ hb ∧ g ≠ p ∧ g ≠ m ∧ dfoot p hb m L g := by
  cases e : mget k L with
  | none => exact absurd (h.norow k (mget_none.1 e)) hk
  | some v =>
    obtain ⟨g, c, e1, h1, h2, h3⟩ := h.rows _ (mget_mem e)
    dsimp only at e1 h1 h2
    subst e1
    refine ⟨g, c, rfl, h1, h3, ?_, ?_, .inr (.inr (.inr ⟨_, mget_mem e, rfl⟩))⟩
    · rintro rfl
      obtain ⟨cur, hb⟩ := ownsRow_type h1 rfl
      rw [h.obj] at hb
      simp at hb
    · rintro rfl
      obtain ⟨cur, hb⟩ := ownsRow_type h1 rfl
      obtain ⟨es, c, hb', _⟩ := h.map
      rw [hb'] at hb
      cases hb
end

theorem field_row (w : World) (v : Value) : (Instr.field 124 (.agg #[v]) 0).run Tryz.prog w = .ok v w := by kernel_rfl
attribute [local go_sem ↓] field_row

section
variable {w : World} {p hb hc m : Nat} {L : List (Int × Value)} {s : DS}

set_option maxHeartbeats 400000 in
theorem dev_len (h : DevAt w p hb hc m L s) : Calls Tryz.prog 45 #[.pointer (some ⟨p, 0, none⟩)] w fun e w' => e = .returned (.int .i64 s.hard.length) ∧ w = w' := by
  have h3 := cl_of h.obj 3
  go_enter Tryz.func45, Tryz.ntmps45
  go_wp2_with fail
  go_ret
  exact ⟨rfl, rfl⟩
/-- Is there a sector? -/
def dhas (s : DS) (i : Int) : Bool := decide (0 ≤ i ∧ i < s.hard.length)
set_option maxHeartbeats 400000 in
theorem dev_has (h : DevAt w p hb hc m L s) (i : Int) (b : Bool) (hb' : dhas s i = b) : Calls Tryz.prog 70 #[.pointer (some ⟨p, 0, none⟩), .int .i64 i] w fun e w' => e = .returned (.bool b) ∧ w = w' := by
  subst hb'
  by_cases h1 : 0 ≤ i
  · by_cases h2 : i < s.hard.length
    · go_enter Tryz.func70, Tryz.ntmps70
      go_wp2_with fail
      refine (dev_len h).mono ?_
      rintro e w1 ⟨rfl, rfl⟩
      go_wp2_with fail
      go_ret
      exact ⟨by simp [dhas, h1, h2], rfl⟩
    · go_enter Tryz.func70, Tryz.ntmps70
      go_wp2_with fail
      refine (dev_len h).mono ?_
      rintro e w1 ⟨rfl, rfl⟩
      go_wp2_with fail
      go_ret
      have hd : dhas s i = false := by rw [dhas]; exact decide_eq_false (by omega)
      exact ⟨by rw [hd]; simp; omega, rfl⟩
  · go_enter Tryz.func70, Tryz.ntmps70
    go_wp2_with fail
    go_ret
    exact ⟨by have : ¬ (0 ≤ i ∧ i < (s.hard.length : Int)) := by omega
              simp only [dhas, this, decide_false]; rfl, rfl⟩
set_option maxHeartbeats 400000 in
theorem dev_ready (h : DevAt w p hb hc m L s) (hd : s.dead = false) : Calls Tryz.prog 69 #[.pointer (some ⟨p, 0, none⟩)] w fun e w' => e = .returned (.int .i64 0) ∧ w = w' := by
  have h2 : w.cell? ⟨p, 2, none⟩ = some (.bool false) := by rw [← hd]; exact cl_of h.obj 2
  go_enter Tryz.func69, Tryz.ntmps69
  go_wp2_with fail
  go_ret
  exact ⟨rfl, rfl⟩
set_option maxHeartbeats 400000 in
theorem dev_ready_no (h : DevAt w p hb hc m L s) (hd : s.dead = true) : Calls Tryz.prog 69 #[.pointer (some ⟨p, 0, none⟩)] w fun e w' => e = .returned (.int .i64 30) ∧ w = w' := by
  have h2 : w.cell? ⟨p, 2, none⟩ = some (.bool true) := by rw [← hd]; exact cl_of h.obj 2
  go_enter Tryz.func69, Tryz.ntmps69
  go_wp2_with fail
  go_ret
  exact ⟨rfl, rfl⟩
end
end Go.Proofs.YtjjphcnoegaimaaGreat

namespace Go.Proofs.YtjjphcnoegaimaaGreat
open Go.RowKit Go.Maps
set_option maxRecDepth 20000
attribute [local go_sem ↓] field_row

/-- What is newest of a sector. -/
def newest (s : DS) (i : Nat) : ByteArray := ((s.rows i).getLast?).getD (s.hard.getD i ByteArray.empty)
theorem hard_get {l : List ByteArray} {i : Nat} (h : i < l.length) : l[i]? = some (l.getD i ByteArray.empty) := by simp [List.getD_eq_getElem?_getD, h]

section
variable {w : World} {p hb hc m : Nat} {L : List (Int × Value)} {s : DS}

set_option maxHeartbeats 400000 in
theorem dev_read_down (h : DevAt w p hb hc m L s) (hd : s.dead = true) (i : Int) : Calls Tryz.prog 40 #[.pointer (some ⟨p, 0, none⟩), .int .i64 i] w fun e w' => e = .returned (.tuple #[.string ByteArray.empty, .int .i64 30]) ∧ Below w.heap.size w w' := by
  go_enter Tryz.func40, Tryz.ntmps40
  go_wp2_with fail
  refine (dev_ready_no h hd).mono ?_
  rintro e w1 ⟨rfl, rfl⟩
  go_wp2_with fail
  go_ret2
  exact ⟨rfl, Below.refl _ _⟩
set_option maxHeartbeats 400000 in
theorem dev_read_no (h : DevAt w p hb hc m L s) (hd : s.dead = false) (i : Int) (hi : dhas s i = false) : Calls Tryz.prog 40 #[.pointer (some ⟨p, 0, none⟩), .int .i64 i] w fun e w' => e = .returned (.tuple #[.string ByteArray.empty, .int .i64 2]) ∧ Below w.heap.size w w' := by
  go_enter Tryz.func40, Tryz.ntmps40
  go_wp2_with fail
  refine (dev_ready h hd).mono ?_
  rintro e w1 ⟨rfl, rfl⟩
  go_wp2_with fail
  refine (dev_has h i false hi).mono ?_
  rintro e w1 ⟨rfl, rfl⟩
  go_wp2_with fail
  go_ret2
  exact ⟨rfl, Below.refl _ _⟩
set_option maxHeartbeats 1000000 in
theorem dev_read (h : DevAt w p hb hc m L s) (hd : s.dead = false) (i : Nat) (hi : i < s.hard.length) : Calls Tryz.prog 40 #[.pointer (some ⟨p, 0, none⟩), .int .i64 i] w fun e w' => e = .returned (.tuple #[.string (newest s i), .int .i64 0]) ∧ Below w.heap.size w w' := by
  have hh : dhas s i = true := by simp [dhas]; omega
  have h3 := cl_of h.obj 3
  have h4 := cl_of h.obj 4
  have hlk := h.look_ok i
  by_cases hr : s.rows i = []
  · have hg := h.row_none hr
    rw [rowOf, hg] at hlk
    simp only [Option.getD_none, Option.isSome_none] at hlk
    have hcell := h.hardc (hard_get hi)
    have hlt : hb < w.heap.size := h.lt (.inr (.inl rfl))
    have hpl : p < w.heap.size := h.lt (.inl rfl)
    have hN : Hid (newest s i = s.hard.getD i ByteArray.empty) := by simp [Hid, newest, hr]
    generalize s.hard.getD i ByteArray.empty = b at *
    go_enter Tryz.func40, Tryz.ntmps40
    go_wp2_with fail
    refine (dev_ready h hd).mono ?_
    rintro e w1 ⟨rfl, rfl⟩
    go_wp2_with fail
    refine (dev_has h i true hh).mono ?_
    rintro e w1 ⟨rfl, rfl⟩
    go_wp2_with fail
    go_ret2
    exact ⟨by rw [hN.out]; rfl, bnew _ _⟩
  · obtain ⟨g, c, hg, hrow, -⟩ := h.row_some hr
    rw [rowOf, hg] at hlk
    simp only [Option.getD_some, Option.isSome_some] at hlk
    have hpos := List.length_pos_iff.2 hr
    have hgl := ownsRow_lt hrow rfl
    have hcell := ownsRow_cell hrow rfl (j := (s.rows i).length - 1) (u := .string (newest s i)) (sv_get (by
      rw [List.getElem?_eq_getElem (by omega), newest, List.getLast?_eq_some_getLast hr, Option.getD_some, List.getLast_eq_getElem]))
    generalize newest s i = b at *
    obtain ⟨n, hn⟩ : ∃ n, (s.rows i).length = n + 1 := ⟨(s.rows i).length - 1, by omega⟩
    rw [hn] at hlk hcell
    simp only [Nat.add_sub_cancel] at hcell
    have hm : n + 1 ≤ maxLen := by
      rcases hrow.2 with ⟨e, _⟩ | ⟨g', cap, cur, e, _, _, h1, h2, _⟩
      · cases e
      · omega
    unfold maxLen at hm
    clear hn hrow
    go_enter Tryz.func40, Tryz.ntmps40
    go_wp2_with fail
    refine (dev_ready h hd).mono ?_
    rintro e w1 ⟨rfl, rfl⟩
    go_wp2_with fail
    refine (dev_has h i true hh).mono ?_
    rintro e w1 ⟨rfl, rfl⟩
    go_wp2_with fail
    go_ret2
    exact ⟨rfl, bnew _ _⟩
end
end Go.Proofs.YtjjphcnoegaimaaGreat
