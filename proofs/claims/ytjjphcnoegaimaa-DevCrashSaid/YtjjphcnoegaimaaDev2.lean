/- package dev: Read, Durable, Write. -/
import Derived.Test.YtjjphcnoegaimaaDev
import Derived.Deep.RegionHeld3
import Derived.Deep.AppendLies
namespace Go.Proofs.Ytjjphcnoegaimaa
open Go.RowKit Go.Maps
set_option maxRecDepth 20000
attribute [local go_sem ↓] field_row

/-- What is newest of a sector. -/
def newest (s : DS) (i : Nat) : ByteArray := ((s.rows i).getLast?).getD (s.hard.getD i ByteArray.empty)
theorem hard_get {l : List ByteArray} {i : Nat} (h : i < l.length) : l[i]? = some (l.getD i ByteArray.empty) := by simp [List.getD_eq_getElem?_getD, h]

section
variable {w : World} {p hb hc m : Nat} {L : List (Int × Value)} {s : DS}

set_option maxHeartbeats 400000 in
theorem dev_read_down (h : DevAt w p hb hc m L s) (hd : s.dead = true) (i : Int) : Calls Try.prog 20 #[.pointer (some ⟨p, 0, none⟩), .int .i64 i] w fun e w' => e = .returned (.tuple #[.string ByteArray.empty, .int .i64 30]) ∧ Below w.heap.size w w' := by
  go_enter Try.func20, Try.ntmps20
  go_wp2_with fail
  refine (dev_ready_no h hd).mono ?_
  rintro e w1 ⟨rfl, rfl⟩
  go_wp2_with fail
  go_ret2
  exact ⟨rfl, Below.refl _ _⟩
set_option maxHeartbeats 400000 in
theorem dev_read_no (h : DevAt w p hb hc m L s) (hd : s.dead = false) (i : Int) (hi : dhas s i = false) : Calls Try.prog 20 #[.pointer (some ⟨p, 0, none⟩), .int .i64 i] w fun e w' => e = .returned (.tuple #[.string ByteArray.empty, .int .i64 2]) ∧ Below w.heap.size w w' := by
  go_enter Try.func20, Try.ntmps20
  go_wp2_with fail
  refine (dev_ready h hd).mono ?_
  rintro e w1 ⟨rfl, rfl⟩
  go_wp2_with fail
  refine (dev_has h i false hi).mono ?_
  rintro e w1 ⟨rfl, rfl⟩
  go_wp2_with fail
  go_ret2
  exact ⟨rfl, Below.refl _ _⟩
set_option maxHeartbeats 1000000 in
theorem dev_read (h : DevAt w p hb hc m L s) (hd : s.dead = false) (i : Nat) (hi : i < s.hard.length) : Calls Try.prog 20 #[.pointer (some ⟨p, 0, none⟩), .int .i64 i] w fun e w' => e = .returned (.tuple #[.string (newest s i), .int .i64 0]) ∧ Below w.heap.size w w' := by
  have hh : dhas s i = true := by simp [dhas]; omega
  have h3 := cl_of h.obj 3
  have h4 := cl_of h.obj 4
  have hlk := h.look_ok i
  by_cases hr : s.rows i = []
  · have hg := h.row_none hr
    rw [rowOf, hg] at hlk
    simp only [Option.getD_none, Option.isSome_none] at hlk
    have hcell := h.hardc (hard_get hi)
    have hlt : hb < w.heap.size := h.lt (.inr (.inl rfl))
    have hpl : p < w.heap.size := h.lt (.inl rfl)
    have hN : Hid (newest s i = s.hard.getD i ByteArray.empty) := by simp [Hid, newest, hr]
    generalize s.hard.getD i ByteArray.empty = b at *
    go_enter Try.func20, Try.ntmps20
    go_wp2_with fail
    refine (dev_ready h hd).mono ?_
    rintro e w1 ⟨rfl, rfl⟩
    go_wp2_with fail
    refine (dev_has h i true hh).mono ?_
    rintro e w1 ⟨rfl, rfl⟩
    go_wp2_with fail
    go_ret2
    exact ⟨by rw [hN.out]; rfl, bnew _ _⟩
  · obtain ⟨g, c, hg, hrow, -⟩ := h.row_some hr
    rw [rowOf, hg] at hlk
    simp only [Option.getD_some, Option.isSome_some] at hlk
    have hpos := List.length_pos_iff.2 hr
    have hgl := ownsRow_lt hrow rfl
    have hcell := ownsRow_cell hrow rfl (j := (s.rows i).length - 1) (u := .string (newest s i)) (sv_get (by
      rw [List.getElem?_eq_getElem (by omega), newest, List.getLast?_eq_some_getLast hr, Option.getD_some, List.getLast_eq_getElem]))
    generalize newest s i = b at *
    obtain ⟨n, hn⟩ : ∃ n, (s.rows i).length = n + 1 := ⟨(s.rows i).length - 1, by omega⟩
    rw [hn] at hlk hcell
    simp only [Nat.add_sub_cancel] at hcell
    have hm : n + 1 ≤ maxLen := by
      rcases hrow.2 with ⟨e, _⟩ | ⟨g', cap, cur, e, _, _, h1, h2, _⟩
      · cases e
      · omega
    unfold maxLen at hm
    clear hn hrow
    go_enter Try.func20, Try.ntmps20
    go_wp2_with fail
    refine (dev_ready h hd).mono ?_
    rintro e w1 ⟨rfl, rfl⟩
    go_wp2_with fail
    refine (dev_has h i true hh).mono ?_
    rintro e w1 ⟨rfl, rfl⟩
    go_wp2_with fail
    go_ret2
    exact ⟨rfl, bnew _ _⟩
set_option maxHeartbeats 400000 in
theorem dev_durable (h : DevAt w p hb hc m L s) (i : Nat) (hi : i < s.hard.length) : Calls Try.prog 45 #[.pointer (some ⟨p, 0, none⟩), .int .i64 i] w fun e w' => e = .returned (.tuple #[.string (s.hard.getD i ByteArray.empty), .int .i64 0]) ∧ w = w' := by
  have hh : dhas s i = true := by simp [dhas]; omega
  have h3 := cl_of h.obj 3
  have hcell := h.hardc (hard_get hi)
  generalize s.hard.getD i ByteArray.empty = b at *
  go_enter Try.func45, Try.ntmps45
  go_wp2_with fail
  refine (dev_has h i true hh).mono ?_
  rintro e w1 ⟨rfl, rfl⟩
  go_wp2_with fail
  go_ret2
  exact ⟨rfl, rfl⟩
end
end Go.Proofs.Ytjjphcnoegaimaa
