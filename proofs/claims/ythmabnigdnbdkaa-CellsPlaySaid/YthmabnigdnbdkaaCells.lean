/- package cells: shared cells as a map's block, a row of touches and a switch; the walks through its methods but Clash. -/
import Derived.Test.YthmabnigdnbdkaaProg
import Derived.Test.YthmabnigdnbdkaaMap
import Derived.Test.YthmabnigdnbdkaaRow
import Derived.Deep.AppendLies
namespace Go.Proofs.Ythmabnigdnbdkaa
open Go.RowKit
set_option maxRecDepth 20000

/-- What a cell has. -/
def nget (k : Int) : List (Int × Int) → Int
  | [] => 0
  | (a, v) :: l => if k = a then v else nget k l
def nput (k v : Int) : List (Int × Int) → List (Int × Int)
  | [] => [(k, v)]
  | (a, u) :: l => if k = a then (a, v) :: l else (a, u) :: nput k v l
def nums (N : List (Int × Int)) : List (Int × Value) := N.map fun x => (x.1, .agg #[.int .i64 x.2])
theorem nget_put (k j v : Int) (N : List (Int × Int)) : nget j (nput k v N) = if j = k then v else nget j N := by
  induction N with
  | nil => simp [nput, nget]
  | cons x l ih =>
    obtain ⟨a, u⟩ := x
    unfold nput
    by_cases h : k = a
    · subst h
      by_cases hj : j = k <;> simp [nget, hj]
    · simp only [h, if_false, nget, ih]
      by_cases hj : j = a
      · subst hj
        simp [show ¬ j = k from fun e => h e.symm]
      · simp [hj]
theorem mget_nums (k : Int) (N : List (Int × Int)) : (mget k (nums N)).getD (.agg #[.int .i64 0]) = .agg #[.int .i64 (nget k N)] := by
  induction N with
  | nil => rfl
  | cons x l ih =>
    obtain ⟨a, u⟩ := x
    simp only [nums, List.map_cons, mget, nget] at ih ⊢
    by_cases h : k = a
    · simp [h]
    · simp only [h, if_false]; exact ih
theorem mput_nums (k v : Int) (N : List (Int × Int)) : mput k (.agg #[.int .i64 v]) (nums N) = nums (nput k v N) := by
  induction N with
  | nil => rfl
  | cons x l ih =>
    obtain ⟨a, u⟩ := x
    simp only [nums, List.map_cons, mput, nput] at ih ⊢
    by_cases h : k = a
    · simp [h]
    · simp only [h, if_false, List.map_cons, ih]

/-- A touch: of which core, to which cell, whether it wrote. -/
structure Touch where
  core : Int
  cell : Int
  write : Bool
def tc (t : Touch) : List Value := [.int .i64 t.core, .int .u64 t.cell, .bool t.write]
def touches (S : List Touch) : List Value := S.flatMap tc
/-- Few enough touches for the append's own bounds (kept from the walker's sight). -/
structure Few (S : List Touch) : Prop where
  out : S.length ≤ 10000
theorem touches_snoc (S : List Touch) (t : Touch) : touches (S ++ [t]) = touches S ++ tc t := by simp [touches]
theorem touches_length (S : List Touch) : (touches S).length = S.length * 3 := by
  induction S with
  | nil => rfl
  | cons t S ih => simp only [touches, List.flatMap_cons, List.length_append, List.length_cons] at ih ⊢; rw [ih]; simp [tc]; omega

/-- Cells: at block p, their map at block m. -/
structure CellsAt (W : World) (p m : Nat) (sv : Value) (on : Bool) (N : List (Int × Int)) (S : List Touch) : Prop where
  obj : W.heap[p]? = some (.cells #[.map (some m), sv, .bool on] 88 (0, 0))
  map : MapAt W m .u64 (nums N)
  row : W.ownsRow 0 91 3 sv S.length (touches S)

/-- The blocks of cells. -/
def cfoot (p m : Nat) (sv : Value) (k : Nat) : Prop := k = p ∨ k = m ∨ sv.ownBlock = some k

theorem CellsAt.keep {W W' : World} {p m : Nat} {sv : Value} {on : Bool} {N : List (Int × Int)} {S : List Touch} (h : CellsAt W p m sv on N S) (hb : ∀ k, cfoot p m sv k → W'.heap[k]? = W.heap[k]?) : CellsAt W' p m sv on N S :=
  ⟨(hb p (.inl rfl)).trans h.obj, h.map.of_block (hb m (.inr (.inl rfl))), ownsRow_of_block h.row (fun k hk => hb k (.inr (.inr hk)))⟩
theorem CellsAt.lt {W : World} {p m : Nat} {sv : Value} {on : Bool} {N : List (Int × Int)} {S : List Touch} (h : CellsAt W p m sv on N S) {k : Nat} (hk : cfoot p m sv k) : k < W.heap.size := by
  rcases hk with rfl | rfl | hk
  · exact (Array.getElem?_eq_some_iff.1 h.obj).1
  · exact h.map.lt
  · exact ownsRow_lt h.row hk
theorem CellsAt.pm {W : World} {p m : Nat} {sv : Value} {on : Bool} {N : List (Int × Int)} {S : List Touch} (h : CellsAt W p m sv on N S) : m ≠ p := by
  rintro rfl
  obtain ⟨es, c, hb, _⟩ := h.map
  rw [h.obj] at hb
  cases hb
theorem CellsAt.rp {W : World} {p m : Nat} {sv : Value} {on : Bool} {N : List (Int × Int)} {S : List Touch} (h : CellsAt W p m sv on N S) : sv.ownBlock ≠ some p := by
  intro e
  obtain ⟨cur, hb⟩ := ownsRow_type h.row e
  rw [h.obj] at hb
  simp at hb
theorem CellsAt.rm {W : World} {p m : Nat} {sv : Value} {on : Bool} {N : List (Int × Int)} {S : List Touch} (h : CellsAt W p m sv on N S) : sv.ownBlock ≠ some m := by
  intro e
  obtain ⟨cur, hb⟩ := ownsRow_type h.row e
  obtain ⟨es, c, hb', _⟩ := h.map
  rw [hb'] at hb
  cases hb
theorem CellsAt.fr {W W' : World} {p m : Nat} {sv : Value} {on : Bool} {N : List (Int × Int)} {S : List Touch} {T : Nat → Prop} (h : CellsAt W p m sv on N S) (hf : Fr T W W') (hd : ∀ k, cfoot p m sv k → ¬ T k) : CellsAt W' p m sv on N S :=
  h.keep (fun k hk => hf.block k (h.lt hk) (hd k hk))
theorem CellsAt.alloc {W : World} {p m : Nat} {sv : Value} {on : Bool} {N : List (Int × Int)} {S : List Touch} (h : CellsAt W p m sv on N S) (o : Obj) : CellsAt (W.alloc o) p m sv on N S :=
  h.keep (fun _ hk => hp_old W o (h.lt hk))
theorem CellsAt.drew {W : World} {p m : Nat} {sv : Value} {on : Bool} {N : List (Int × Int)} {S : List Touch} (h : CellsAt W p m sv on N S) : CellsAt W.drew p m sv on N S := ⟨h.obj, h.map, h.row⟩

theorem Fr.alloc {S : Nat → Prop} {a w : World} (h : Fr S a w) (o : Obj) : Fr S a (w.alloc o) :=
  h.trans ⟨rfl, rfl, rfl, by simp, fun k hk _ => hp_old w o hk⟩
theorem Fr.drew {S : Nat → Prop} {a w : World} (h : Fr S a w) : Fr S a w.drew := ⟨h.os, h.tape, h.output, h.size, h.block⟩
theorem Fr.setCell {S : Nat → Prop} {a w : World} (h : Fr S a w) (p : Addr) (hp : a.heap.size ≤ p.block ∨ S p.block) (v : Value) : Fr S a (w.setCell p v) :=
  ⟨h.os, h.tape, h.output, by simpa [World.setCell] using h.size, fun k hk hs => (Below.heap_setCell w p v k (by rintro rfl; rcases hp with hp | hp; omega; exact hs hp)).trans (h.block k hk hs)⟩

theorem zero_number (w : World) : (zeroValue 103).run Try.prog w = .ok (.agg #[.int .i64 0]) w := by kernel_rfl
theorem Try.infoTouch : (Try.prog.info? 91).map (fun i => (i.zero, i.size, i.bytes)) = some (some (.agg #[.int .i64 0, .int .u64 0, .bool false]), 3, 24) := by kernel_rfl

theorem field_number (w : World) (v : Int) : (Instr.field 103 (.agg #[.int .i64 v]) 0).run Try.prog w = .ok (.int .i64 v) w := by kernel_rfl
attribute [local go_sem ↓] field_number

/-- A map read. -/
theorem CellsAt.look {W : World} {p m : Nat} {sv : Value} {on : Bool} {N : List (Int × Int)} {S : List Touch} (h : CellsAt W p m sv on N S) (k : Int) :
    (Instr.lookup 86 (.map (some m)) (.int .u64 k) false).run Try.prog W = .ok (.agg #[.int .i64 (nget k N)]) W := by
  have := h.map.look (t := 86) Try.underlying86 Try.underlying30 (zero_number W) k
  rw [mget_nums] at this
  exact this
/-- A map set. -/
theorem CellsAt.put {W : World} {p m : Nat} {sv : Value} {on : Bool} {N : List (Int × Int)} {S : List Touch} (h : CellsAt W p m sv on N S) (k v : Int) :
    ∃ W', (Instr.mapUpdate 86 (.map (some m)) (.int .u64 k) (.agg #[.int .i64 v])).run Try.prog W = .ok () W' ∧ CellsAt W' p m sv on (nput k v N) S ∧ Fr (fun j => j = m) W W' := by
  obtain ⟨W', hr, hm, hg⟩ := h.map.put (P := Try.prog) (t := 86) Try.underlying86 Try.underlying30 k (.agg #[.int .i64 v])
  rw [mput_nums] at hm
  have hk : ∀ j, j < W.heap.size → j ≠ m → W'.heap[j]? = W.heap[j]? := fun j hj hn => hg.block j hj (by intro e; exact hn (by cases e; rfl))
  refine ⟨W', hr, ⟨(hk p (h.lt (.inl rfl)) h.pm.symm).trans h.obj, hm, ownsRow_of_block h.row (fun k hk' => hk k (h.lt (.inr (.inr hk'))) ?_)⟩, ⟨hg.os, hg.tape, hg.output, hg.size, fun j hj hn => hk j hj hn⟩⟩
  rintro rfl
  exact h.rm hk'

set_option maxHeartbeats 400000 in
/-- New. -/
theorem cells_new (w : World) : Calls Try.prog 13 #[] w fun e w' => ∃ p m, e = .returned (.pointer (some ⟨p, 0, none⟩)) ∧ CellsAt w' p m (.slice none 0 0) false [] [] ∧ Below w.heap.size w w' ∧ w.heap.size ≤ p ∧ w.heap.size ≤ m := by
  have hmm := @run_makeMap Try.prog
  go_enter Try.func13, Try.ntmps13
  go_wp2_with fail
  go_ret
  have hm := MapAt.new w .u64
  have hb := (Below.refl w.heap.size w).alloc (Nat.le_refl _) (.map #[] 0)
  refine ⟨w.heap.size + 1, w.heap.size, rfl, ⟨hp_new _ _ (by simp), hm.of_block (hp_old _ _ (by simp)), ⟨rfl, .inl ⟨rfl, rfl⟩⟩⟩, hb.alloc (by simp) _, by omega, Nat.le_refl _⟩

theorem heap_set_here {w : World} {b : Nat} {cs : Array Value} {t : TypeId} {fz : Nat × Nat} (h : w.heap[b]? = some (.cells cs t fz)) (i : Nat) (u : Value) : (w.setCell ⟨b, i, none⟩ u).heap[b]? = some (.cells (cs.setIfInBounds i u) t fz) := by
  obtain ⟨hlt, _⟩ := Array.getElem?_eq_some_iff.1 h
  simp [World.setCell, Array.getElem?_modify, h]

set_option maxHeartbeats 400000 in
theorem touch_off {w : World} {p m : Nat} {sv : Value} {N : List (Int × Int)} {S : List Touch} (h : CellsAt w p m sv false N S) (core cell : Int) (wr : Bool) :
    Calls Try.prog 56 #[.pointer (some ⟨p, 0, none⟩), .int .i64 core, .int .u64 cell, .bool wr] w fun e w' => e = .returned (.tuple #[]) ∧ w = w' := by
  have h2 := cl_of h.obj 2
  go_enter Try.func56, Try.ntmps56
  go_wp2_with fail
  go_end0
  exact ⟨rfl, rfl⟩

set_option maxHeartbeats 400000 in
theorem touch_on {w : World} {p m : Nat} {sv : Value} {N : List (Int × Int)} {S : List Touch} (h : CellsAt w p m sv true N S) (hn : Few S) (core cell : Int) (wr : Bool) :
    Calls Try.prog 56 #[.pointer (some ⟨p, 0, none⟩), .int .i64 core, .int .u64 cell, .bool wr] w fun e w' => ∃ sv', e = .returned (.tuple #[]) ∧ CellsAt w' p m sv' true N (S ++ [⟨core, cell, wr⟩]) ∧ Fr (cfoot p m sv) w w' ∧
      (sv'.ownBlock = sv.ownBlock ∨ ∃ g, sv'.ownBlock = some g ∧ w.heap.size ≤ g) := by
  have h1 := cl_of h.obj 1
  have h2 := cl_of h.obj 2
  obtain ⟨i0, hi, hz0, hz1, hz2⟩ := info_parts Try.infoTouch
  go_enter Try.func56, Try.ntmps56
  go_wp2_with (at_builtin; refine wpList_append_row _ rfl (.tmp 16) (.tmp 21) 42 rfl 91 i0 _ 3 24 Try.underlying42 hi hz0 hz1 hz2 rfl (by decide) sv S.length (touches S) rfl (h.alloc _).row ⟨w.heap.size, 0, none⟩ 1 1 (tc ⟨core, cell, wr⟩) rfl rfl ?_ ?_ ?_ ?_ ?_)
  · intro j u hj
    rw [Addr.add_lit, Nat.zero_add, cl_of (hp_new w _ rfl)]
    simpa [tc] using hj
  · intro u hu
    simp only [tc, List.mem_cons, List.not_mem_nil, or_false] at hu
    rcases hu with rfl | rfl | rfl <;> rfl
  · have := hn.out
    simp only [maxLen]
    omega
  · have := hn.out
    omega
  intro sv' w' hrow hg hst
  have hpl := h.lt (.inl rfl)
  have hml := h.lt (.inr (.inl rfl))
  have hsz : (w.alloc (.cells #[.int .i64 core, .int .u64 cell, .bool wr] 91 (0, 0))).heap.size = w.heap.size + 1 := by simp
  have hp : w'.heap[p]? = some (.cells #[.map (some m), sv, .bool true] 88 (0, 0)) := (hg.block p (by omega) h.rp.symm).trans ((hp_old w _ hpl).trans h.obj)
  have hm : w'.heap[m]? = w.heap[m]? := (hg.block m (by omega) h.rm.symm).trans (hp_old w _ hml)
  have c1 := cl_of hp 1
  have z1 := fz_of hp 1
  have hne : sv'.ownBlock ≠ some p := by
    intro e
    obtain ⟨cur, hb⟩ := ownsRow_type hrow e
    rw [hp] at hb
    simp at hb
  have hne2 : sv'.ownBlock ≠ some m := by
    intro e
    obtain ⟨cur, hb⟩ := ownsRow_type hrow e
    obtain ⟨es, c, hb', _⟩ := h.map
    rw [hm, hb'] at hb
    cases hb
  obtain ⟨ao, an, ac, hsv⟩ : ∃ ao an ac, sv' = .slice ao an ac := by
    rcases hrow.2 with ⟨e, _⟩ | ⟨g, cap, cur, e, _⟩ <;> exact ⟨_, _, _, e⟩
  rw [hsv]
  go_wp2_with fail
  go_end0
  rw [← hsv]
  refine ⟨sv', rfl, ⟨?_, ?_, ?_⟩, ?_, ?_⟩
  · exact heap_set_here hp 1 sv'
  · exact h.map.of_block ((Below.heap_setCell w' _ _ m h.pm).trans hm)
  · rw [touches_snoc, List.length_append]
    refine ownsRow_of_block hrow (fun k hk => Below.heap_setCell w' _ _ k ?_)
    rintro rfl
    exact hne hk
  · refine ⟨hg.os, hg.tape, hg.output, ?_, ?_⟩
    · have := hg.size
      simp only [World.setCell, Array.size_modify]
      omega
    · intro k hk hnt
      have hkp : k ≠ p := fun e => hnt (.inl e)
      refine (Below.heap_setCell w' _ _ k hkp).trans ((hg.block k (by omega) ?_).trans (hp_old w _ hk))
      exact fun e => hnt (.inr (.inr e.symm))
  · rcases hst with h' | ⟨g, h1, h2, h3⟩
    · exact .inl h'
    · exact .inr ⟨g, h1, by omega⟩

/-- Where the row of touches lies behind a step. -/
def svstep (w : World) (sv sv' : Value) : Prop := sv'.ownBlock = sv.ownBlock ∨ ∃ g, sv'.ownBlock = some g ∧ w.heap.size ≤ g
theorem svstep.refl (w : World) (sv : Value) : svstep w sv sv := .inl rfl
def logged (on : Bool) (S : List Touch) (t : Touch) : List Touch := if on then S ++ [t] else S

/-- What a step of cells leaves. -/
def CStep (w : World) (p m : Nat) (sv : Value) (on : Bool) (N : List (Int × Int)) (S : List Touch) (w' : World) : Prop :=
  ∃ sv', CellsAt w' p m sv' on N S ∧ Fr (cfoot p m sv) w w' ∧ svstep w sv sv'

theorem touch_any {w : World} {p m : Nat} {sv : Value} {on : Bool} {N : List (Int × Int)} {S : List Touch} (h : CellsAt w p m sv on N S) (hn : Few S) (core cell : Int) (wr : Bool) :
    Calls Try.prog 56 #[.pointer (some ⟨p, 0, none⟩), .int .i64 core, .int .u64 cell, .bool wr] w fun e w' => e = .returned (.tuple #[]) ∧ CStep w p m sv on N (logged on S ⟨core, cell, wr⟩) w' := by
  cases on with
  | false => exact (touch_off h core cell wr).mono fun e w' ⟨he, hw⟩ => by subst hw; exact ⟨he, sv, h, Fr.refl _ _, .inl rfl⟩
  | true => exact (touch_on h hn core cell wr).mono fun e w' ⟨sv', he, a, b, c⟩ => ⟨he, sv', a, b, c⟩

set_option maxHeartbeats 400000 in
theorem read_any {w : World} {p m : Nat} {sv : Value} {on : Bool} {N : List (Int × Int)} {S : List Touch} (h : CellsAt w p m sv on N S) (hn : Few S) (core cell : Int) :
    Calls Try.prog 19 #[.pointer (some ⟨p, 0, none⟩), .int .i64 core, .int .u64 cell] w fun e w' => e = .returned (.int .i64 (nget cell N)) ∧ CStep w p m sv on N (logged on S ⟨core, cell, false⟩) w' := by
  go_enter Try.func19, Try.ntmps19
  go_wp2_with fail
  refine (touch_any h hn core cell false).mono ?_
  rintro e w' ⟨rfl, sv', h', hf, hs⟩
  have h0 := cl_of h'.obj 0
  have hl := h'.look cell
  go_wp2_with fail
  go_ret
  exact ⟨rfl, sv', h', hf, hs⟩

set_option maxHeartbeats 400000 in
theorem write_any {w : World} {p m : Nat} {sv : Value} {on : Bool} {N : List (Int × Int)} {S : List Touch} (h : CellsAt w p m sv on N S) (hn : Few S) (core cell v : Int) :
    Calls Try.prog 22 #[.pointer (some ⟨p, 0, none⟩), .int .i64 core, .int .u64 cell, .int .i64 v] w fun e w' => e = .returned (.tuple #[]) ∧ CStep w p m sv on (nput cell v N) (logged on S ⟨core, cell, true⟩) w' := by
  go_enter Try.func22, Try.ntmps22
  go_wp2_with fail
  refine (touch_any h hn core cell true).mono ?_
  rintro e w' ⟨rfl, sv', h', hf, hs⟩
  have h0 := cl_of h'.obj 0
  obtain ⟨W2, hr, h2, hf2⟩ := h'.put cell v
  go_wp2_with fail
  go_end0
  exact ⟨rfl, sv', h2, hf.trans (hf2.weak (fun k _ hk => .inr (.inl hk))), hs⟩

set_option maxHeartbeats 400000 in
theorem peek_any {w : World} {p m : Nat} {sv : Value} {on : Bool} {N : List (Int × Int)} {S : List Touch} (h : CellsAt w p m sv on N S) (cell : Int) :
    Calls Try.prog 17 #[.pointer (some ⟨p, 0, none⟩), .int .u64 cell] w fun e w' => e = .returned (.int .i64 (nget cell N)) ∧ w = w' := by
  have h0 := cl_of h.obj 0
  have hl := h.look cell
  go_enter Try.func17, Try.ntmps17
  go_wp2_with fail
  go_ret
  exact ⟨rfl, rfl⟩

set_option maxHeartbeats 400000 in
theorem add_any {w : World} {p m : Nat} {sv : Value} {on : Bool} {N : List (Int × Int)} {S : List Touch} (h : CellsAt w p m sv on N S) (hn : Few S) (core cell v : Int) :
    Calls Try.prog 18 #[.pointer (some ⟨p, 0, none⟩), .int .i64 core, .int .u64 cell, .int .i64 v] w fun e w' => e = .returned (.int .i64 (nget cell N)) ∧ CStep w p m sv on (nput cell (wrap64 (nget cell N + v)) N) (logged on S ⟨core, cell, true⟩) w' := by
  go_enter Try.func18, Try.ntmps18
  go_wp2_with fail
  refine (touch_any h hn core cell true).mono ?_
  rintro e w' ⟨rfl, sv', h', hf, hs⟩
  have h0 := cl_of h'.obj 0
  have hl := h'.look cell
  go_wp2_with fail
  obtain ⟨W2, hr, h2, hf2⟩ := ((h'.alloc (.cells #[.int .i64 (nget cell N)] 103 (0, 0))).drew).put cell (wrap64 (nget cell N + v))
  have e0 := cl_of ((h'.alloc (.cells #[.int .i64 (nget cell N)] 103 (0, 0))).drew).obj 0
  go_region
  have hwm : w'.heap.size ≠ m := by have := h'.lt (.inr (.inl rfl)); omega
  have hnew : W2.heap[w'.heap.size]? = some (.cells #[.int .i64 (nget cell N)] 103 (0, 0)) := (hf2.block w'.heap.size (by simp [World.drew]) hwm).trans (hp_new w' _ rfl)
  have hz := cl_of hnew 0
  rename_i hK
  refine hK _ _ ?_
  go_wp2_with fail
  go_ret
  refine ⟨rfl, sv', h2, hf.trans ?_, hs⟩
  exact ((Fr.refl (cfoot p m sv) w').alloc _).drew.trans (hf2.weak (fun k _ hk => .inr (.inl hk)))
end Go.Proofs.Ythmabnigdnbdkaa
