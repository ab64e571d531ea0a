/- package seq: counters over cells; the walks through its methods. -/
import Derived.Test.YthmabnigdnbdkaaCells
import Derived.Deep.RegionHeld3
import Derived.Laws.BitsLemmas
namespace Go.Proofs.Ythmabnigdnbdkaa
open Go.RowKit
set_option maxRecDepth 20000

/-- Counters: at block s, over cells at block p. -/
def SeqAt (W : World) (s p : Nat) (base : Int) : Prop := W.heap[s]? = some (.cells #[.pointer (some ⟨p, 0, none⟩), .int .u64 base] 112 (0, 0))
theorem SeqAt.lt {W : World} {s p : Nat} {base : Int} (h : SeqAt W s p base) : s < W.heap.size := (Array.getElem?_eq_some_iff.1 h).1
theorem SeqAt.apart {W : World} {s p p' m : Nat} {base : Int} {sv : Value} {on : Bool} {N : List (Int × Int)} {S : List Touch} (h : SeqAt W s p' base) (hc : CellsAt W p m sv on N S) : ¬ cfoot p m sv s := by
  rintro (rfl | rfl | hk)
  · rw [SeqAt, hc.obj] at h; simp at h
  · obtain ⟨es, c, hb, _⟩ := hc.map
    rw [SeqAt, hb] at h; cases h
  · obtain ⟨cur, hb⟩ := ownsRow_type hc.row hk
    rw [SeqAt, hb] at h; simp at h
theorem SeqAt.fr {W W' : World} {s p : Nat} {base : Int} {T : Nat → Prop} (h : SeqAt W s p base) (hf : Fr T W W') (hd : ¬ T s) : SeqAt W' s p base := (hf.block s h.lt hd).trans h

theorem CStep.undrew {w : World} {p m : Nat} {sv : Value} {on : Bool} {N : List (Int × Int)} {S : List Touch} {w' : World} (h : CStep w.drew p m sv on N S w') : CStep w p m sv on N S w' := by
  obtain ⟨sv', a, b, c⟩ := h
  exact ⟨sv', a, ⟨b.os, b.tape, b.output, b.size, b.block⟩, c⟩
theorem seqat_a {w w' : World} {s p m : Nat} {base : Int} {sv : Value} {on : Bool} {N : List (Int × Int)} {S : List Touch} (hq : SeqAt w s p base) (hd : ¬ cfoot p m sv s) (h : CStep w p m sv on N S w') : w'.cell? ⟨s, 0, none⟩ = some (.pointer (some ⟨p, 0, none⟩)) := by
  obtain ⟨sv', a, b, c⟩ := h
  exact cl_of (hq.fr b hd) 0
theorem seqat_b {w w' : World} {s p m : Nat} {base : Int} {sv : Value} {on : Bool} {N : List (Int × Int)} {S : List Touch} (hq : SeqAt w s p base) (hd : ¬ cfoot p m sv s) (h : CStep w p m sv on N S w') : w'.cell? ⟨s, 1, none⟩ = some (.int .u64 base) := by
  obtain ⟨sv', a, b, c⟩ := h
  exact cl_of (hq.fr b hd) 1

theorem CStep.cell {w w' : World} {p m : Nat} {sv : Value} {on : Bool} {N : List (Int × Int)} {S : List Touch} (h : CStep w p m sv on N S w') {b i : Nat} {v : Value} (hc : w.cell? ⟨b, i, none⟩ = some v) (hd : ¬ cfoot p m sv b) : w'.cell? ⟨b, i, none⟩ = some v := by
  obtain ⟨sv', _, hf, _⟩ := h
  have hlt : b < w.heap.size := by
    rcases Nat.lt_or_ge b w.heap.size with h' | h'
    · exact h'
    · simp [World.cell?, Array.getElem?_eq_none h'] at hc
  exact (hf.cell (p := ⟨b, i, none⟩) hlt hd).trans hc

/-- A sum of two numbers of 64 bits. -/
def u64s (a b : Int) : Int := IntKind.u64.wrap (a + b)

set_option maxHeartbeats 400000 in
theorem seq_new (w : World) (p : Nat) (base : Int) : Calls Try.prog 33 #[.pointer (some ⟨p, 0, none⟩), .int .u64 base] w fun e w' => e = .returned (.pointer (some ⟨w.heap.size, 0, none⟩)) ∧ SeqAt w' w.heap.size p base ∧ w.alloc (.cells #[.pointer (some ⟨p, 0, none⟩), .int .u64 base] 112) = w' := by
  go_enter Try.func33, Try.ntmps33
  go_wp2_with fail
  go_ret
  exact ⟨rfl, hp_new _ _ rfl, rfl⟩

set_option maxHeartbeats 400000 in
theorem seq_new_nil (w : World) (base : Int) : Calls Try.prog 33 #[.pointer none, .int .u64 base] w fun e w' => e = .returned (.pointer none) ∧ w = w' := by
  go_enter Try.func33, Try.ntmps33
  go_wp2_with fail
  go_ret
  exact ⟨rfl, rfl⟩

set_option maxHeartbeats 400000 in
theorem seq_at {w : World} {s p m : Nat} {base : Int} {sv : Value} {on : Bool} {N : List (Int × Int)} {S : List Touch} (hq : SeqAt w s p base) (h : CellsAt w p m sv on N S) (hn : Few S) (k core : Int) :
    Calls Try.prog 63 #[.pointer (some ⟨s, 0, none⟩), .int .u64 k, .func (.func 19) #[] #[], .int .i64 core] w fun e w' => e = .returned (.int .i64 (nget (u64s base k) N)) ∧ CStep w p m sv on N (logged on S ⟨core, u64s base k, false⟩) w' := by
  have h0 := cl_of hq 0
  have h1 := cl_of hq 1
  have hd := hq.apart h
  go_enter Try.func63, Try.ntmps63
  go_wp2_with fail
  go_region_held3 (fun W => W.cell? ⟨s, 0, none⟩ = some (.pointer (some ⟨p, 0, none⟩)) ∧ W.cell? ⟨s, 1, none⟩ = some (.int .u64 base)) (first | exact ⟨h0, h1⟩ | exact ⟨seqat_a hq hd (by assumption), seqat_b hq hd (by assumption)⟩) (first | (go_at_call 19; refine (read_any (p := p) (m := m) (sv := sv) (on := on) (N := N) (S := S) (by first | exact h | exact h.drew) hn core (u64s base k)).mono ?_; rintro e w' ⟨rfl, hst⟩; replace hst := hst.undrew))
  go_wp2_with fail
  go_ret
  exact ⟨rfl, by assumption⟩

set_option maxHeartbeats 400000 in
theorem seq_begin {w : World} {s p m : Nat} {base : Int} {sv : Value} {on : Bool} {N : List (Int × Int)} {S : List Touch} (hq : SeqAt w s p base) (h : CellsAt w p m sv on N S) (hn : Few S) (core k : Int) :
    Calls Try.prog 36 #[.pointer (some ⟨s, 0, none⟩), .int .i64 core, .int .u64 k] w fun e w' => e = .returned (.int .i64 (nget (u64s base k) N)) ∧ CStep w p m sv on N (logged on S ⟨core, u64s base k, false⟩) w' := by
  go_enter Try.func36, Try.ntmps36
  go_wp2_with fail
  refine (seq_at hq h hn k core).mono ?_
  rintro e w' ⟨rfl, hst⟩
  go_wp2_with fail
  go_ret
  exact ⟨rfl, hst⟩

set_option maxHeartbeats 400000 in
theorem seq_same {w : World} {s p m : Nat} {base : Int} {sv : Value} {on : Bool} {N : List (Int × Int)} {S : List Touch} (hq : SeqAt w s p base) (h : CellsAt w p m sv on N S) (hn : Few S) (core k v : Int) :
    Calls Try.prog 37 #[.pointer (some ⟨s, 0, none⟩), .int .i64 core, .int .u64 k, .int .i64 v] w fun e w' => e = .returned (.bool (decide (nget (u64s base k) N = v ∧ v.tmod 2 = 0))) ∧ CStep w p m sv on N (logged on S ⟨core, u64s base k, false⟩) w' := by
  go_enter Try.func37, Try.ntmps37
  go_wp2_with fail
  refine (seq_at hq h hn k core).mono ?_
  rintro e w' ⟨rfl, hst⟩
  by_cases h1 : nget (u64s base k) N = v
  · by_cases h2 : v.tmod 2 = 0
    · go_wp2_with fail
      go_ret
      exact ⟨by simp [h1, h2], hst⟩
    · go_wp2_with fail
      go_ret
      exact ⟨by simp [h1, h2], hst⟩
  · go_wp2_with fail
    go_ret
    exact ⟨by simp [h1], hst⟩

theorem and_one (x : Int) : (bits BinOp.and IntKind.i64 x 1 == 1) = decide (x % 2 = 1) := by
  have h1 : (BitVec.ofInt 64 (1 : Int)).toNat = 1 := by decide
  have h2 : ((2 ^ 64 : Nat) : Int) = 18446744073709551616 := by decide
  have e : bits BinOp.and IntKind.i64 x 1 = x % 2 := by
    show IntKind.i64.wrap (((BitVec.ofInt 64 x &&& BitVec.ofInt 64 1).toNat : Nat) : Int) = x % 2
    rw [BitVec.toNat_and, h1, Nat.and_one_is_mod, BitVec.toNat_ofInt, IntKind.wrap_i64, h2]
    omega
  rw [e]
  by_cases hx : x % 2 = 1 <;> simp [hx]

set_option maxHeartbeats 400000 in
theorem seq_busy {w : World} {s p m : Nat} {base : Int} {sv : Value} {on : Bool} {N : List (Int × Int)} {S : List Touch} (hq : SeqAt w s p base) (h : CellsAt w p m sv on N S) (k : Int) :
    Calls Try.prog 38 #[.pointer (some ⟨s, 0, none⟩), .int .u64 k] w fun e w' => e = .returned (.bool (decide (nget (u64s base k) N % 2 = 1))) ∧ w.drew = w' := by
  have h0 := cl_of hq 0
  have h1 := cl_of hq 1
  go_enter Try.func38, Try.ntmps38
  go_wp2_with fail
  go_region_held3 (fun W => W.cell? ⟨s, 0, none⟩ = some (.pointer (some ⟨p, 0, none⟩)) ∧ W.cell? ⟨s, 1, none⟩ = some (.int .u64 base)) (first | exact ⟨h0, h1⟩ | (simp only [*]; exact ⟨h0, h1⟩)) (first | (go_at_call 17; refine (peek_any (p := p) (m := m) (sv := sv) (on := on) (N := N) (S := S) (by first | exact h | exact h.drew) (u64s base k)).mono ?_; rintro e w' ⟨rfl, hst⟩; subst hst))
  rename_i hK _
  refine hK _ _ ?_
  go_wp2_with fail
  go_ret
  exact ⟨by rw [← and_one]; rfl, rfl⟩

set_option maxHeartbeats 400000 in
theorem seq_turn1 {w : World} {s p m a b c : Nat} {base : Int} {sv : Value} {on : Bool} {N : List (Int × Int)} {S : List Touch} (hq : SeqAt w s p base) (h : CellsAt w p m sv on N S) (hn : Few S) (core k : Int)
    {ta tb tk : TypeId} (ha : w.heap[a]? = some (.cells #[.pointer (some ⟨s, 0, none⟩)] ta (0, 0))) (hb : w.heap[b]? = some (.cells #[.int .i64 core] tb (0, 0))) (hc : w.heap[c]? = some (.cells #[.int .u64 k] tk (0, 0)))
    (da : ¬ cfoot p m sv a) (db : ¬ cfoot p m sv b) (dc : ¬ cfoot p m sv c) :
    Calls Try.prog 73 #[.pointer (some ⟨a, 0, none⟩), .pointer (some ⟨b, 0, none⟩), .pointer (some ⟨c, 0, none⟩)] w fun e w' => e = .returned (.tuple #[]) ∧ CStep w p m sv on (nput (u64s base k) (wrap64 (nget (u64s base k) N + 1)) N) (logged on S ⟨core, u64s base k, true⟩) w' := by
  have h0 := cl_of hq 0
  have h1 := cl_of hq 1
  have hd := hq.apart h
  have ca := cl_of ha 0
  have cb := cl_of hb 0
  have cc := cl_of hc 0
  go_enter Try.func73, Try.ntmps73
  go_wp2_with fail
  go_region_held3 (fun W => W.cell? ⟨s, 0, none⟩ = some (.pointer (some ⟨p, 0, none⟩)) ∧ W.cell? ⟨s, 1, none⟩ = some (.int .u64 base) ∧ W.cell? ⟨a, 0, none⟩ = some (.pointer (some ⟨s, 0, none⟩)) ∧ W.cell? ⟨b, 0, none⟩ = some (.int .i64 core) ∧ W.cell? ⟨c, 0, none⟩ = some (.int .u64 k)) (first | exact ⟨h0, h1, ca, cb, cc⟩ | exact ⟨CStep.cell (by assumption) h0 hd, CStep.cell (by assumption) h1 hd, CStep.cell (by assumption) ca da, CStep.cell (by assumption) cb db, CStep.cell (by assumption) cc dc⟩) (first | (go_at_call 18; refine (add_any (p := p) (m := m) (sv := sv) (on := on) (N := N) (S := S) (by first | exact h | exact h.drew) hn core (u64s base k) 1).mono ?_; rintro e w' ⟨rfl, hst⟩; replace hst := hst.undrew))
  go_end0
  exact ⟨rfl, by assumption⟩

set_option maxHeartbeats 400000 in
theorem seq_turn {w : World} {s p m : Nat} {base : Int} {sv : Value} {on : Bool} {N : List (Int × Int)} {S : List Touch} (hq : SeqAt w s p base) (h : CellsAt w p m sv on N S) (hn : Few S) (core k : Int) :
    Calls Try.prog 62 #[.pointer (some ⟨s, 0, none⟩), .int .i64 core, .int .u64 k] w fun e w' => e = .returned (.tuple #[]) ∧ CStep w p m sv on (nput (u64s base k) (wrap64 (nget (u64s base k) N + 1)) N) (logged on S ⟨core, u64s base k, true⟩) w' := by
  have h0 := cl_of hq 0
  have h1 := cl_of hq 1
  go_enter Try.func62, Try.ntmps62
  go_wp2_with fail
  refine (seq_turn1 (sv := sv) (on := on) (N := N) (S := S) (hq.fr ((((Fr.refl (fun _ => False) w).alloc _).alloc _).alloc _) id) (((h.alloc _).alloc _).alloc _) hn core k
    ((hp_old _ _ (by simp; omega)).trans ((hp_old _ _ (by simp)).trans (hp_new w _ rfl))) ((hp_old _ _ (by simp)).trans (hp_new _ _ (by simp))) (hp_new _ _ (by simp)) (fun hk => absurd (h.lt hk) (by omega)) (fun hk => absurd (h.lt hk) (by omega)) (fun hk => absurd (h.lt hk) (by omega))).mono ?_
  rintro e w' ⟨rfl, hst⟩
  go_wp2_with fail
  go_end0
  obtain ⟨sv', a, b, c⟩ := hst
  refine ⟨rfl, sv', a, ((((Fr.refl (cfoot p m sv) w).alloc _).alloc _).alloc _).trans b, ?_⟩
  rcases c with c | ⟨g, hg, hl⟩
  · exact .inl c
  · exact .inr ⟨g, hg, by simp at hl; omega⟩

set_option maxHeartbeats 400000 in
theorem seq_open {w : World} {s p m : Nat} {base : Int} {sv : Value} {on : Bool} {N : List (Int × Int)} {S : List Touch} (hq : SeqAt w s p base) (h : CellsAt w p m sv on N S) (hn : Few S) (core k : Int) :
    Calls Try.prog 34 #[.pointer (some ⟨s, 0, none⟩), .int .i64 core, .int .u64 k] w fun e w' => e = .returned (.tuple #[]) ∧ CStep w p m sv on (nput (u64s base k) (wrap64 (nget (u64s base k) N + 1)) N) (logged on S ⟨core, u64s base k, true⟩) w' := by
  go_enter Try.func34, Try.ntmps34
  go_wp2_with fail
  refine (seq_turn hq h hn core k).mono ?_
  rintro e w' ⟨rfl, hst⟩
  go_wp2_with fail
  go_end0
  exact ⟨rfl, hst⟩

set_option maxHeartbeats 400000 in
theorem seq_close {w : World} {s p m : Nat} {base : Int} {sv : Value} {on : Bool} {N : List (Int × Int)} {S : List Touch} (hq : SeqAt w s p base) (h : CellsAt w p m sv on N S) (hn : Few S) (core k : Int) :
    Calls Try.prog 35 #[.pointer (some ⟨s, 0, none⟩), .int .i64 core, .int .u64 k] w fun e w' => e = .returned (.tuple #[]) ∧ CStep w p m sv on (nput (u64s base k) (wrap64 (nget (u64s base k) N + 1)) N) (logged on S ⟨core, u64s base k, true⟩) w' := by
  go_enter Try.func35, Try.ntmps35
  go_wp2_with fail
  refine (seq_turn hq h hn core k).mono ?_
  rintro e w' ⟨rfl, hst⟩
  go_wp2_with fail
  go_end0
  exact ⟨rfl, hst⟩
end Go.Proofs.Ythmabnigdnbdkaa
