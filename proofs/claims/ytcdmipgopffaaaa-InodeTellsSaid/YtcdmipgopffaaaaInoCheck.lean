/- package inode: the walk through Check. -/
import Derived.Test.YtcdmipgopffaaaaIno
import Derived.Test.YtcdmipgopffaaaaMap
import Derived.Deep.RegionHeld3
import Derived.Deep.RegionLawGrows
import Derived.Laws.StructEq
namespace Go.Proofs.Ytcdmipgopffaaaa
open Go.RowKit
set_option maxRecDepth 20000

/-- An inode. -/
structure Ino where
  k : Int
  l : Int
  s : Int
  d0 : Int
  d1 : Int
  d2 : Int
  d3 : Int
  n : Int
deriving DecidableEq
def Ino.zero : Ino := ⟨0, 0, 0, 0, 0, 0, 0, 0⟩
structure Ino.Wf (x : Ino) : Prop where
  k : 0 ≤ x.k ∧ x.k < 256
  l : 0 ≤ x.l ∧ x.l < 65536
  s : 0 ≤ x.s ∧ x.s < 4294967296
  d0 : 0 ≤ x.d0 ∧ x.d0 < 65536
  d1 : 0 ≤ x.d1 ∧ x.d1 < 65536
  d2 : 0 ≤ x.d2 ∧ x.d2 < 65536
  d3 : 0 ≤ x.d3 ∧ x.d3 < 65536
  n : 0 ≤ x.n ∧ x.n < 65536
def Ino.ds (x : Ino) : List Int := [x.d0, x.d1, x.d2, x.d3, x.n]
/-- An inode's cells. -/
def ic (x : Ino) : Array Value := #[.int .u8 x.k, .int .u16 x.l, .int .u32 x.s, .int .u16 x.d0, .int .u16 x.d1, .int .u16 x.d2, .int .u16 x.d3, .int .u16 x.n]
def ieq (a b : Ino) : Bool := decide (a = b)
def deq (a0 a1 a2 a3 b0 b1 b2 b3 : Int) : Bool := decide (a0 = b0 ∧ a1 = b1 ∧ a2 = b2 ∧ a3 = b3)
theorem eq_arr (d : Nat) (a0 a1 a2 a3 b0 b1 b2 b3 : Int) (w : World) : (Op.equalIn (d + 2) 49 (.agg #[.int .u16 a0, .int .u16 a1, .int .u16 a2, .int .u16 a3]) (.agg #[.int .u16 b0, .int .u16 b1, .int .u16 b2, .int .u16 b3])).run Try.prog w = .ok (deq a0 a1 a2 a3 b0 b1 b2 b3) w := by
  have u3 := Try.underlying40
  have a3' := Try.isAgg40
  have z3 := Try.sizeOf40
  rw [show d + 2 = (d + 1) + 1 from rfl, Op.equalIn]
  simp only [Sem.run_bind, run_underlying Try.underlying49, Result.andThen_ok]
  simp only [Std.Legacy.Range.forIn_eq_forIn_range', Std.Legacy.Range.size, Nat.sub_zero, Nat.add_sub_cancel, Nat.div_one, List.range'_succ, List.range'_zero, List.forIn_cons, List.forIn_nil]
  go_simp
  unfold deq
  by_cases h1 : a0 = b0 <;> by_cases h2 : a1 = b1 <;> by_cases h3 : a2 = b2 <;> by_cases h4 : a3 = b3 <;> simp [h1, h2, h3, h4]
theorem eq_ino (a b : Ino) (w : World) : (Op.equalIn 10000 51 (.agg #[.int .u8 a.k, .int .u16 a.l, .int .u32 a.s, .int .u16 a.d0, .int .u16 a.d1, .int .u16 a.d2, .int .u16 a.d3, .int .u16 a.n]) (.agg #[.int .u8 b.k, .int .u16 b.l, .int .u32 b.s, .int .u16 b.d0, .int .u16 b.d1, .int .u16 b.d2, .int .u16 b.d3, .int .u16 b.n])).run Try.prog w = .ok (ieq a b) w := by
  have u3 := Try.underlying40
  have a3' := Try.isAgg40
  have u4 := Try.underlying5
  have a4' := Try.isAgg5
  have u5 := Try.underlying39
  have a5' := Try.isAgg39
  have a6' := Try.isAgg49
  have z6 := Try.sizeOf49
  have ea := eq_arr 9997 a.d0 a.d1 a.d2 a.d3 b.d0 b.d1 b.d2 b.d3
  rw [show (10000 : Nat) = 9999 + 1 by rfl, run_equalIn_struct (P := Try.prog) w 9999 51 _ _ (by kernel_rfl) (by kernel_rfl)]
  simp only [Program.fieldsOf, Try.underlying51]
  go_simp
  obtain ⟨ak, al, az, a0, a1, a2, a3, an⟩ := a
  obtain ⟨bk, bl, bss, b0, b1, b2, b3, bn⟩ := b
  simp only [ieq, deq, Ino.mk.injEq]
  by_cases h1 : ak = bk
  · by_cases h2 : al = bl
    · by_cases h3 : az = bss
      · by_cases h4 : a0 = b0 ∧ a1 = b1 ∧ a2 = b2 ∧ a3 = b3
        · by_cases h5 : an = bn <;> simp [h1, h2, h3, h4, h5]
        · have : ¬ (a0 = b0 ∧ a1 = b1 ∧ a2 = b2 ∧ a3 = b3 ∧ an = bn) := fun h => h4 ⟨h.1, h.2.1, h.2.2.1, h.2.2.2.1⟩
          simp [h1, h2, h3, h4, this]
      · simp [h1, h2, h3]
    · simp [h1, h2]
  · simp [h1]
attribute [local go_sem ↓] eq_ino

/-- The blocks that an inode tells may be. -/
def BlksOk (s : Int) (ds : List Int) : Prop := ∀ i, i < ds.length → ds.getD i 0 ≠ 0 → 64 * (i : Int) < s ∧ ∀ j, j < i → ds.getD j 0 ≠ ds.getD i 0
/-- An inode that may be. -/
def Ino.May (x : Ino) : Prop := x = Ino.zero ∨ ((x.k = 1 ∨ x.k = 2) ∧ x.l ≤ 200 ∧ x.s ≤ 2304 ∧ (x.k = 2 → x.s % 64 = 0) ∧ BlksOk x.s x.ds)

set_option maxHeartbeats 1000000 in
theorem check_zero (w : World) : Calls Try.prog 40 #[.agg (ic Ino.zero)] w fun e w' => e = .returned (.int .i64 0) ∧ Below w.heap.size w w' := by
  have he := fun W => eq_ino Ino.zero Ino.zero W
  have hi : ieq Ino.zero Ino.zero = true := by decide
  rw [hi] at he
  unfold ic
  dsimp only [Ino.zero] at *
  go_enter Try.func40, Try.ntmps40
  go_wp2_with fail
  go_ret
  exact ⟨rfl, bnew _ _⟩
set_option maxHeartbeats 1000000 in
theorem check_kind (x : Ino) (_hw : x.Wf) (hz : x ≠ Ino.zero) (h1 : x.k ≠ 1) (h2 : x.k ≠ 2) (w : World) : Calls Try.prog 40 #[.agg (ic x)] w fun e w' => e = .returned (.int .i64 2) ∧ Below w.heap.size w w' := by
  have he := fun W => eq_ino x Ino.zero W
  have hi : ieq x Ino.zero = false := decide_eq_false hz
  rw [hi] at he
  unfold ic
  dsimp only [Ino.zero] at he
  have b1 : (x.k != 1) = true := by simpa using h1
  have b2 : (x.k != 2) = true := by simpa using h2
  by_cases h0 : x.k = 0
  · have hk : (x.k == 0) = true := by simp [h0]
    clear h0 h1 h2 hz hi
    go_enter Try.func40, Try.ntmps40
    go_wp2_with fail
    go_ret
    exact ⟨rfl, bnew _ _⟩
  · have hk : (x.k == 0) = false := by simp [h0]
    go_enter Try.func40, Try.ntmps40
    go_wp2_with fail
    go_ret
    exact ⟨rfl, bnew _ _⟩

theorem field_dir (w : World) : (Instr.field 51 (.agg #[.int .u8 0, .int .u16 0, .int .u32 0, .int .u16 0, .int .u16 0, .int .u16 0, .int .u16 0, .int .u16 0]) 3).run Try.prog w = .ok (.agg #[.int .u16 0, .int .u16 0, .int .u16 0, .int .u16 0]) w := by kernel_rfl
theorem eq_arr' (a0 a1 a2 a3 b0 b1 b2 b3 : Int) (w : World) : (Op.equalIn 10000 49 (.agg #[.int .u16 a0, .int .u16 a1, .int .u16 a2, .int .u16 a3]) (.agg #[.int .u16 b0, .int .u16 b1, .int .u16 b2, .int .u16 b3])).run Try.prog w = .ok (deq a0 a1 a2 a3 b0 b1 b2 b3) w := eq_arr 9998 a0 a1 a2 a3 b0 b1 b2 b3 w
attribute [local go_sem ↓] field_dir eq_arr'

/-- The kind is one of the two, and what the walk says of it. -/
structure KindB (x : Ino) : Prop where
  z : (x.k == 0) = false
  n : (x.k != 1 && x.k != 2) = false
theorem kindb {x : Ino} (h : x.k = 1 ∨ x.k = 2) : (x.k == 0) = false ∧ ((x.k != 1) = false ∨ ((x.k != 1) = true ∧ (x.k != 2) = false)) := by
  rcases h with h | h <;> simp [h]

set_option maxHeartbeats 1000000 in
theorem check_bad (x : Ino) (hw : x.Wf) (hk : x.k = 1 ∨ x.k = 2) (h : 200 < x.l ∨ 2304 < x.s ∨ (x.k = 2 ∧ x.s % 64 ≠ 0)) (w : World) : Calls Try.prog 40 #[.agg (ic x)] w fun e w' => e = .returned (.int .i64 2) ∧ Below w.heap.size w w' := by
  obtain ⟨wk, wl, ws, w0, w1, w2, w3, wn⟩ := hw
  unfold ic
  by_cases hl : 200 < x.l
  · clear h
    rcases hk with hk | hk
    all_goals
      rw [hk]
      go_enter Try.func40, Try.ntmps40
      go_wp2_with fail
      go_ret
      exact ⟨rfl, bnew _ _⟩
  · by_cases hs : 2304 < x.s
    · clear h
      rcases hk with hk | hk
      all_goals
        rw [hk]
        go_enter Try.func40, Try.ntmps40
        go_wp2_with fail
        go_ret
        exact ⟨rfl, bnew _ _⟩
    · have hk2 : x.k = 2 ∧ x.s % 64 ≠ 0 := by rcases h with h | h | h; exact absurd h hl; exact absurd h hs; exact h
      clear h hk
      have hb : (x.s % 64 != 0) = true := by simpa using hk2.2
      rw [hk2.1]
      clear hk2
      go_enter Try.func40, Try.ntmps40
      go_wp2_with fail
      go_ret
      exact ⟨rfl, bnew _ _⟩

set_option maxHeartbeats 1000000 in
theorem check_none (x : Ino) (hw : x.Wf) (hk : x.k = 1 ∨ x.k = 2) (hl : x.l ≤ 200) (hs : x.s ≤ 2304) (hd : x.k = 2 → x.s % 64 = 0) (h0 : x.d0 = 0 ∧ x.d1 = 0 ∧ x.d2 = 0 ∧ x.d3 = 0 ∧ x.n = 0) (w : World) : Calls Try.prog 40 #[.agg (ic x)] w fun e w' => e = .returned (.int .i64 0) ∧ Below w.heap.size w w' := by
  obtain ⟨wk, wl, ws, w0, w1, w2, w3, wn⟩ := hw
  unfold ic
  obtain ⟨e0, e1, e2, e3, en⟩ := h0
  rw [e0, e1, e2, e3, en]
  have hq : deq 0 0 0 0 0 0 0 0 = true := by decide
  rcases hk with hk | hk
  · rw [hk]
    clear hd e0 e1 e2 e3 en hk
    go_enter Try.func40, Try.ntmps40
    go_wp2_with fail
    go_ret
    exact ⟨rfl, bnew _ _⟩
  · have hb : (x.s % 64 != 0) = false := by simpa using hd hk
    rw [hk]
    clear hd e0 e1 e2 e3 en hk
    go_enter Try.func40, Try.ntmps40
    go_wp2_with fail
    go_ret
    exact ⟨rfl, bnew _ _⟩

theorem pages_le {s : Int} {k : Nat} : pages s ≤ k ↔ s ≤ 64 * (k : Int) := by unfold pages; omega
/-- What was met. -/
structure Met (L : List (Int × Value)) (l : List Int) : Prop where
  no : ∀ b, b ∉ l → mget b L = none
  yes : ∀ b, b ∈ l → ∃ c : Int, mget b L = some (.int .i64 c) ∧ 1 ≤ c ∧ c ≤ l.length
theorem Met.nil : Met [] [] := ⟨fun _ _ => rfl, fun b h => by simp at h⟩
theorem Met.cnt {L : List (Int × Value)} {l : List Int} (h : Met L l) (b : Int) : ∃ c : Int, (mget b L).getD (.int .i64 0) = .int .i64 c ∧ 0 ≤ c ∧ c ≤ l.length ∧ (0 < c ↔ b ∈ l) := by
  by_cases hb : b ∈ l
  · obtain ⟨c, h1, h2, h3⟩ := h.yes b hb
    exact ⟨c, by rw [h1]; rfl, by omega, h3, by constructor <;> intro _ <;> first | exact hb | omega⟩
  · exact ⟨0, by rw [h.no b hb]; rfl, by omega, by omega, by constructor <;> intro hh <;> first | omega | exact absurd hh hb⟩
theorem Met.put {L : List (Int × Value)} {l : List Int} (h : Met L l) (b : Int) {c : Int} (h0 : 0 ≤ c) (h1 : c ≤ l.length) : Met (mput b (.int .i64 (c + 1)) L) (l ++ [b]) := by
  refine ⟨fun a ha => ?_, fun a ha => ?_⟩
  · simp only [List.mem_append, List.mem_singleton, not_or] at ha
    rw [mget_put, if_neg ha.2, h.no a ha.1]
  · rw [mget_put]
    by_cases e : a = b
    · rw [if_pos e]
      exact ⟨c + 1, rfl, by omega, by simp; omega⟩
    · rw [if_neg e]
      simp only [List.mem_append, List.mem_singleton, e, or_false] at ha
      obtain ⟨c', h1, h2, h3⟩ := h.yes a ha
      exact ⟨c', h1, h2, by simp; omega⟩
theorem take_snocI (zs : List Int) {k : Nat} (hk : k < zs.length) : zs.take (k + 1) = zs.take k ++ [zs.getD k 0] := by
  rw [List.take_succ_eq_append_getElem hk, List.getD_eq_getElem?_getD, List.getElem?_eq_getElem hk, Option.getD_some]
/-- The first k blocks may be. -/
def BlksTo (s : Int) (ds : List Int) (k : Nat) : Prop := ∀ i, i < k → ds.getD i 0 ≠ 0 → 64 * (i : Int) < s ∧ ∀ j, j < i → ds.getD j 0 ≠ ds.getD i 0
theorem mem_take {ds : List Int} {k : Nat} (hk : k ≤ ds.length) (b : Int) : b ∈ ds.take k ↔ ∃ j, j < k ∧ ds.getD j 0 = b := by
  constructor
  · intro h
    obtain ⟨j, hj, e⟩ := List.getElem_of_mem h
    rw [List.length_take] at hj
    refine ⟨j, by omega, ?_⟩
    rw [List.getD_eq_getElem?_getD, List.getElem?_eq_getElem (by omega), Option.getD_some]
    rw [List.getElem_take] at e
    exact e
  · rintro ⟨j, hj, e⟩
    rw [List.getD_eq_getElem?_getD, List.getElem?_eq_getElem (by omega), Option.getD_some] at e
    rw [← e]
    exact List.mem_of_getElem (i := j) (h := by rw [List.length_take]; omega) (by rw [List.getElem_take])
theorem BlksTo.snoc {s : Int} {ds : List Int} {k : Nat} (h : BlksTo s ds k) (hk : ds.getD k 0 ≠ 0 → 64 * (k : Int) < s ∧ ∀ j, j < k → ds.getD j 0 ≠ ds.getD k 0) : BlksTo s ds (k + 1) := by
  intro i hi
  by_cases e : i = k
  · subst e; exact hk
  · exact h i (by omega)
theorem u16s_get (zs : List Int) {k : Nat} (hk : k < zs.length) : (u16s zs)[k]? = some (.int .u16 (zs.getD k 0)) := by
  rw [u16s, List.getElem?_map, List.getElem?_eq_getElem hk, List.getD_eq_getElem?_getD, List.getElem?_eq_getElem hk]
  rfl
theorem olds_at {W : World} {b : Nat} {v0 v1 v2 v7 : Value} {d0 d1 d2 d3 : Int} {t : TypeId} (h : W.heap[b]? = some (.cells #[v0, v1, v2, .int .u16 d0, .int .u16 d1, .int .u16 d2, .int .u16 d3, v7] t (0, 0))) : ∀ b', some (⟨b, 3, none⟩ : Addr) = some b' → ∀ j u, (u16s [d0, d1, d2, d3])[j]? = some u → W.cell? (b'.add j) = some u := by
  rintro b' ⟨⟩ j u hj
  rw [Addr.add_lit, cl_of h]
  rcases j with _ | _ | _ | _ | j
  · exact hj
  · exact hj
  · exact hj
  · exact hj
  · simp [u16s] at hj
theorem news_at {W : World} {b : Nat} {v : Value} {t : TypeId} (h : W.heap[b]? = some (.cells #[v] t (0, 0))) : ∀ (j : Nat) u, [v][j]? = some u → W.cell? ((⟨b, 0, none⟩ : Addr).add j) = some u := by
  intro j u hj
  rw [Addr.add_lit, Nat.zero_add, cl_of h]
  simpa using hj
theorem oneU16 (n : Int) : ∀ u ∈ [Value.int .u16 n], u.oneCell' = true := by
  intro u hu
  simp only [List.mem_singleton] at hu
  subst hu
  rfl

theorem zero_int (w : World) : (zeroValue 3).run Try.prog w = .ok (.int .i64 0) w := by kernel_rfl
theorem map_first {w W' : World} {o o3 : Obj} (hg : (((w.alloc o).alloc (.map #[] 0)).alloc o3).drew.grownBy W' none) : MapAt W' (w.heap.size + 1) .u16 [] := by
  have h1 := MapAt.new (w.alloc o) .u16
  have e : (w.alloc o).heap.size = w.heap.size + 1 := by simp
  rw [e] at h1
  refine h1.of_block ?_
  have hlt := h1.lt
  refine (hg.block (w.heap.size + 1) ?_ (by simp)).trans ?_
  · show w.heap.size + 1 < (((w.alloc o).alloc (.map #[] 0)).alloc o3).heap.size
    simp
  · show (((w.alloc o).alloc (.map #[] 0)).alloc o3).heap[w.heap.size + 1]? = _
    exact hp_old _ _ hlt
theorem below_first {w W' : World} {o o2 o3 : Obj} (hg : (((w.alloc o).alloc o2).alloc o3).drew.grownBy W' none) : Below w.heap.size w W' :=
  Below.grown (bal (bal (bnew w o) o2) o3).drew hg (by show w.heap.size ≤ (((w.alloc o).alloc o2).alloc o3).heap.size; simp; omega) (fun k hk => by cases hk)
theorem own_row {W : World} {base : Nat} {e : TypeId} {v : Value} {n : Nat} {xs : List Value} (h : W.ownsRow base e 1 v (n + 1) xs) : ∃ (g cap : Nat) (cur : Array Value), v = .slice (some ⟨g, 0, none⟩) (n + 1) cap ∧ base ≤ g ∧ W.heap[g]? = some (.cells cur e (0, 0)) ∧ ∀ (k : Nat) (u : Value), xs[k]? = some u → cur[k]? = some u := by
  rcases h.2 with ⟨_, hz⟩ | ⟨g, cap, cur, rfl, h0, hh, hnc, hcm, hcs, hct⟩
  · omega
  · refine ⟨g, cap, cur, rfl, h0, hh, fun k u hk => ?_⟩
    rw [← hct, List.getElem?_take] at hk
    split at hk
    · simpa using hk
    · cases hk

set_option maxHeartbeats 4000000 in
theorem check_some (x : Ino) (hw : x.Wf) (hk : x.k = 1 ∨ x.k = 2) (hl : x.l ≤ 200) (hs : x.s ≤ 2304) (hd : x.k = 2 → x.s % 64 = 0) (h0 : ¬ (x.d0 = 0 ∧ x.d1 = 0 ∧ x.d2 = 0 ∧ x.d3 = 0 ∧ x.n = 0)) (w : World) : Calls Try.prog 40 #[.agg (ic x)] w fun e w' => Below w.heap.size w w' ∧ (BlksOk x.s x.ds → e = .returned (.int .i64 0)) ∧ (¬ BlksOk x.s x.ds → e = .returned (.int .i64 2)) := by
  obtain ⟨wk, wl, ws, w0, w1, w2, w3, wn⟩ := hw
  have hmm := @run_makeMap Try.prog
  obtain ⟨i0, hi, hz0, hz1, hz2⟩ := info_parts Try.infoU16
  have hq : deq x.d0 x.d1 x.d2 x.d3 0 0 0 0 = false ∨ (deq x.d0 x.d1 x.d2 x.d3 0 0 0 0 = true ∧ (x.n == 0) = false) := by
    by_cases hq : x.d0 = 0 ∧ x.d1 = 0 ∧ x.d2 = 0 ∧ x.d3 = 0
    · exact .inr ⟨decide_eq_true hq, by rw [beq_eq_false_iff_ne]; exact fun e => h0 ⟨hq.1, hq.2.1, hq.2.2.1, hq.2.2.2, e⟩⟩
    · exact .inl (decide_eq_false hq)
  have hds : x.ds.length = 5 := rfl
  have hdw : ∀ k, k < 5 → 0 ≤ x.ds.getD k 0 ∧ x.ds.getD k 0 < 65536 := by
    intro k hk
    rcases (by omega : k = 0 ∨ k = 1 ∨ k = 2 ∨ k = 3 ∨ k = 4) with rfl | rfl | rfl | rfl | rfl
    · exact w0
    · exact w1
    · exact w2
    · exact w3
    · exact wn
  have HDW := Lib.hid hdw
  clear hdw
  unfold ic
  rcases hk with hk | hk
  all_goals
    first | (have hb : (x.s % 64 != 0) = false := by simpa using hd hk) | skip
    rcases hq with hqb | ⟨hqb, hnb⟩
    all_goals
      rw [hk]
      go_enter Try.func40, Try.ntmps40
      go_wp2_with fail
      refine (pages_any _ ws.1 ws.2 _).mono ?_
      rintro e w1 ⟨rfl, rfl⟩
      go_wp2_with fail
      go_region_law (first | ((refine step_append_grows (by rfl) (.tmp 56) (.tmp 59) 58 (by rfl) 40 i0 (.int .u16 0) 1 2 Try.underlying58 hi hz0 hz1 hz2 rfl (by decide) (some ⟨w.heap.size, 3, none⟩) 4 4 (u16s [x.d0, x.d1, x.d2, x.d3]) (by rfl) (fun h => by cases h) (by rfl) (olds_at (blk_old (blk_old (hp_new w _ rfl) _) _)) ⟨w.heap.size + 2, 0, none⟩ 1 1 [.int .u16 x.n] (by rfl) (by rfl) (news_at (hp_new _ _ (by simp))) (oneU16 _) (by decide) (by decide) (by decide) ?_); intro v' w' hown hgrow; obtain ⟨g, cp, cur, hv', hgb, hgc, hgx⟩ := own_row hown; rw [hv']; clear hv' hown))
      first | (rename_i hK; refine hK _ _ ?_; clear hK) | (rename_i hK _; refine hK _ _ ?_; clear hK) | (rename_i hK _ _; refine hK _ _ ?_; clear hK)
      have hM := map_first hgrow
      have hB := below_first hgrow
      have hgl : w.heap.size + 3 ≤ g := by
        have e : ∀ (o1 o2 o3 : Obj), (((w.alloc o1).alloc o2).alloc o3).drew.heap.size = w.heap.size + 3 := fun o1 o2 o3 => by show (((w.alloc o1).alloc o2).alloc o3).heap.size = _; simp
        rw [e] at hgb
        exact hgb
      clear hgrow hgb hmm
      have hx : u16s [x.d0, x.d1, x.d2, x.d3] ++ [Value.int .u16 x.n] = u16s x.ds := rfl
      rw [hx] at hgx
      clear hx
      have HGX := Lib.hid hgx
      clear hgx
      go_wp2_with fail
      simp only [List.getElem_toArray, List.getElem_cons_succ, List.getElem_cons_zero, Act.put, List.setIfInBounds_toArray, List.set_cons_succ, List.set_cons_zero]
      go_loopw [62] (fun v wr => ∃ (k : Nat) (L : List (Int × Value)), k ≤ 5 ∧ v = .int .i64 k ∧ MapAt wr (w.heap.size + 1) .u16 L ∧ Met L (x.ds.take k) ∧ BlksTo x.s x.ds k ∧ wr.heap[g]? = some (.cells cur 40 (0, 0)) ∧ Below w.heap.size w wr) (fun v _ => 5 - (intOf v).toNat)
      case atStart => exact ⟨0, [], by omega, rfl, hM, Met.nil, fun i hi => absurd hi (by omega), hgc, hB⟩
      case round =>
        obtain ⟨k, L, hk5, rfl, hM', hT, hTo, hgr, hBr⟩ := hrel
        clear hM hgc hB
        by_cases hlt : k < 5
        · have hc := (cl_of hgr k).trans (HGX.out k _ (u16s_get x.ds (by rw [hds]; exact hlt)))
          obtain ⟨c, hc1, hc2, hc3, hc4⟩ := hT.cnt (x.ds.getD k 0)
          have hlook := hM'.look (P := Try.prog) (t := 91) Try.underlying91 Try.underlying40 (zero_int wr) (x.ds.getD k 0)
          rw [hc1] at hlook
          have hc5 : c ≤ 5 := by rw [List.length_take] at hc3; omega
          obtain ⟨W', hput, hM2, hg2⟩ := hM'.put (P := Try.prog) (t := 91) Try.underlying91 Try.underlying40 (x.ds.getD k 0) (.int .i64 (c + 1))
          have hT2 := hT.put (x.ds.getD k 0) hc2 hc3
          rw [← take_snocI x.ds (by rw [hds]; exact hlt)] at hT2
          have hB2 : Below w.heap.size w W' := Below.grown hBr hg2 hBr.size (fun j hj => by cases hj; omega)
          have hgr2 : W'.heap[g]? = some (.cells cur 40 (0, 0)) := (hg2.block g (blk_lt hgr) (by intro e; cases e; omega)).trans hgr
          have hmem := mem_take (ds := x.ds) (k := k) (by rw [hds]; exact hk5) (x.ds.getD k 0)
          have hpg := pages_le (s := x.s) (k := k)
          clear hM' hT hc1 hgr
          have hstep : (x.ds.getD k 0 ≠ 0 → 64 * (k : Int) < x.s ∧ ∀ j, j < k → x.ds.getD j 0 ≠ x.ds.getD k 0) → BlksTo x.s x.ds (k + 1) := hTo.snoc
          have hbad : x.ds.getD k 0 ≠ 0 → (pages x.s ≤ k ∨ 0 < c) → ¬ BlksOk x.s x.ds := by
            intro h1 h2 h3
            obtain ⟨h4, h5⟩ := h3 k (by rw [hds]; exact hlt) h1
            rcases h2 with h2 | h2
            · rw [hpg] at h2; omega
            · obtain ⟨j, hj, e⟩ := hmem.1 (hc4.1 h2)
              exact h5 j hj e
          have hgood : ¬ pages x.s ≤ k → ¬ 0 < c → BlksTo x.s x.ds (k + 1) := by
            intro h1 h2
            refine hstep (fun _ => ⟨by rw [hpg] at h1; omega, fun j hj e => h2 (hc4.2 (hmem.2 ⟨j, hj, e⟩))⟩)
          have hgood0 : x.ds.getD k 0 = 0 → BlksTo x.s x.ds (k + 1) := fun h => hstep (fun h' => absurd h h')
          clear hstep hmem hc4 hc3 hpg hds
          generalize x.ds.getD k 0 = B at *
          have HBAD := Lib.hid hbad
          have HGOOD := Lib.hid hgood
          have HG0 := Lib.hid hgood0
          clear hbad hgood hgood0
          by_cases hb0 : B = 0
          · have hbb : (B != 0) = false := by simp [hb0]
            have HB0 := Lib.hid hb0
            clear hb0
            go_wp2_with fail
            go_roundw
            case rel => exact ⟨k + 1, _, by omega, by go_num, hM2, hT2, HG0.out HB0.out, hgr2, hB2⟩
            case measure => simp [intOf]; omega
          · have hbb : (B != 0) = true := by simp [hb0]
            by_cases hp : pages x.s ≤ k
            · have hn := HBAD.out hb0 (.inl hp)
              have HN := Lib.hid hn
              clear hn hb0
              go_wp2_with fail
              go_ret
              exact ⟨hBr, fun h => absurd h HN.out, fun _ => rfl⟩
            · by_cases hcp : 0 < c
              · have hn := HBAD.out hb0 (.inr hcp)
                have HN := Lib.hid hn
                clear hn hb0
                go_wp2_with fail
                go_ret
                exact ⟨hBr, fun h => absurd h HN.out, fun _ => rfl⟩
              · have hn := HGOOD.out hp hcp
                have HN := Lib.hid hn
                clear hn hb0
                go_wp2_with fail
                go_roundw
                case rel => exact ⟨k + 1, _, by omega, by go_num, hM2, hT2, HN.out, hgr2, hB2⟩
                case measure => simp [intOf]; omega
        · obtain rfl : k = 5 := by omega
          go_wp2_with fail
          go_ret
          exact ⟨hBr, fun _ => rfl, fun h => absurd (fun i hi => hTo i (by rw [hds] at hi; exact hi)) h⟩
end Go.Proofs.Ytcdmipgopffaaaa
