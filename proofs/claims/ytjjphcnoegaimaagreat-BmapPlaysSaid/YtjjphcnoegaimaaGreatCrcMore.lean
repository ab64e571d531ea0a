/- The walk through crc.bytes and crc.More: a range over a function. -/
import Derived.Test.YtjjphcnoegaimaaGreatGA
import Derived.Test.YtjjphcnoegaimaaGreatCrcTable
namespace Go.Proofs.YtjjphcnoegaimaaGreat
open Go.RowKit Go.Shelf
attribute [local go_sem] Oper.semAt_some

set_option maxRecDepth 100000 in
set_option maxHeartbeats 2000000 in
theorem bytes1_in (n l Bs : Nat) (hn : 1 ≤ n) (s : ByteArray) (hs : s.size ≤ maxLen) (J Jx : List UInt8 → World → Prop)
    (hY : ∀ pre x W, J pre W → pre.length < s.size → YieldAt Fence.wide (n - 1) Tryz.prog l #[.int .u8 x.toNat] W fun e W' =>
      (e = .returned (.bool true) ∧ J (pre ++ [x]) W' ∧ KeepB (· = Bs) W W') ∨ (e = .returned (.bool false) ∧ Jx (pre ++ [x]) W'))
    (W : World) (hBs : W.cell? ⟨Bs, 0, none⟩ = some (.string s)) (h0 : J [] W) :
    CallsIn Fence.wide n Tryz.prog 161 #[.func (.yield l) #[] #[], .pointer (some ⟨Bs, 0, none⟩)] W fun e W' => (∃ v, e = .returned v) ∧
      ((∃ ys, ys = s.data.toList ∧ J ys W') ∨ (∃ pre, pre <+: s.data.toList ∧ Jx pre W')) := by
  unfold maxLen at hs
  refine callsIn_of_wp Tryz.func161 rfl trivial ?_ rfl
  simp only [Tryz.ntmps161, List.size_toArray, List.length_cons, List.length_nil, Nat.reduceAdd, Nat.reduceSub, Array.replicate_succ, Array.replicate_zero, List.push_toArray, List.append_toArray, List.nil_append, List.cons_append]
  gi_wp2
  gi_loopw [6] (fun i wr => ∃ k : Nat, k ≤ s.size ∧ i = .int .i64 k ∧ J (s.data.toList.take k) wr ∧ wr.cell? ⟨Bs, 0, none⟩ = some (.string s))
    (fun i _ => s.size - (intOf i).toNat)
  case atStart => exact ⟨0, Nat.zero_le _, rfl, by simpa using h0, hBs⟩
  case round =>
    obtain ⟨k, hk, rfl, hJs, hcs⟩ := hrel
    by_cases hlt : k < s.size
    · have hlt' : k < s.data.toList.length := by simpa using hlt
      obtain ⟨fn, tmps, assign, body, hy, hR⟩ := hY _ s[k] wr hJs (by rw [List.length_take]; omega)
      gi_wp2
      refine hR.mono ?_
      have hts : s.data.toList.take (k + 1) = s.data.toList.take k ++ [s[k]] := by
        rw [List.take_succ_eq_append_getElem hlt']; rfl
      rintro e W3 (⟨rfl, hJ3, hk3⟩ | ⟨rfl, hJx3⟩)
      · have hc3 : W3.cell? ⟨Bs, 0, none⟩ = some (.string s) := (hk3.cell (p := ⟨Bs, 0, none⟩) rfl).trans hcs
        gi_wp2
        go_roundw
        case rel => exact ⟨k + 1, by omega, by go_num, by rw [hts]; exact hJ3, hc3⟩
        case measure => simp [intOf]; omega
      · gi_wp2
        refine bodyPost_ret (results_none rfl _ _ _) rfl ?_
        exact ⟨⟨_, rfl⟩, .inr ⟨_, by rw [← hts]; exact List.take_prefix _ _, hJx3⟩⟩
    · obtain rfl : k = s.size := by omega
      gi_wp2
      go_end0
      exact ⟨⟨_, rfl⟩, .inl ⟨_, rfl, by rw [List.take_of_length_le (by simp)] at hJs; exact hJs⟩⟩

set_option maxHeartbeats 1000000 in
theorem bytes_in (n : Nat) (s : ByteArray) (w : World) :
    CallsIn Fence.wide n Tryz.prog 160 #[.string s] w fun e w' => e = .returned (.func (.func 161) #[] #[.pointer (some ⟨w.heap.size, 0, none⟩)]) ∧ w.alloc (.cells #[.string s] 9) = w' := by
  refine callsIn_of_wp Tryz.func160 rfl trivial ?_ rfl
  simp only [Tryz.ntmps160, List.size_toArray, List.length_cons, List.length_nil, Nat.reduceAdd, Nat.reduceSub, Array.replicate_succ, Array.replicate_zero, List.push_toArray, List.append_toArray, List.nil_append, List.cons_append]
  gi_wp2
  go_ret
  exact ⟨rfl, rfl⟩

theorem bytes_stops (n : Nat) (hn : 1 ≤ n) (Bs : Nat) (s : ByteArray) (hs : s.size ≤ maxLen) (w : World) (hBs : Bs < w.heap.size)
    (hc : w.cell? ⟨Bs, 0, none⟩ = some (.string s)) :
    SeqStopsK Fence.wide n Tryz.prog 161 #[.pointer (some ⟨Bs, 0, none⟩)] (fun x : UInt8 => #[Value.int .u8 x.toNat]) (KeepB (· = Bs)) (fun ys => ys = s.data.toList) (fun pre => pre <+: s.data.toList) s.size w :=
  fun l J Jx W hW _ _ hY h0 => by
    have hc' := (hW.cell (p := ⟨Bs, 0, none⟩) hBs).trans hc
    exact bytes1_in n l Bs hn s hs J Jx hY W hc' h0

theorem tab_size0 : (tab 0).size = (tab 256).size := by rw [tab_size, tab_size]
theorem tab_all : (tab 256).all (·.oneCell') = true := by kernel_rfl
theorem upd_bits {c b : Nat} (hc : c < 4294967296) (hb : b < 256) :
    (bits .xor .u32 ((c : Int) / 256) ((stn 8 (c % 256 ^^^ b) : Nat) : Int)) = ((upd c b : Nat) : Int) := by
  have h8 : c % 256 ^^^ b < 4294967296 := Nat.xor_lt_two_pow (n := 32) (by omega) (by omega)
  have := u32_xor_nat (c / 256) (stn 8 (c % 256 ^^^ b)) (by omega) (stn_lt 8 h8)
  rw [upd_table] at this
  rw [← this]
  rfl

theorem more_round {w W : World} {t : TypeId} {tb : Array Value} {v0 : Value} (hc : W.cell? ⟨w.heap.size, 0, none⟩ = some v0) (hf : W.frozen? ⟨w.heap.size, 0, none⟩ = false)
    (ht : W.heap[w.heap.size + 2]? = some (.cells tb t)) (hB : Below w.heap.size w W) (v : Value) :
    KeepsOthers W (W.setCell ⟨w.heap.size, 0, none⟩ v).drew ∧ KeepB (· = w.heap.size + 1 + 1 + 1) W (W.setCell ⟨w.heap.size, 0, none⟩ v).drew ∧
      ((W.setCell ⟨w.heap.size, 0, none⟩ v).drew.cell? ⟨w.heap.size, 0, none⟩ = some v ∧ (W.setCell ⟨w.heap.size, 0, none⟩ v).drew.frozen? ⟨w.heap.size, 0, none⟩ = false ∧ (W.setCell ⟨w.heap.size, 0, none⟩ v).drew.heap[w.heap.size + 2]? = some (.cells tb t)) ∧
      Below w.heap.size w (W.setCell ⟨w.heap.size, 0, none⟩ v).drew := by
  refine ⟨(KeepsOthers.setCell _ _ _).trans (KeepsOthers.drew _), fun b hb => Below.heap_setCell _ _ _ _ (by show b ≠ w.heap.size; omega), ⟨?_, ?_, ?_⟩, (hB.setCell (p := ⟨w.heap.size, 0, none⟩) (Nat.le_refl _) _).drew⟩
  · exact World.cell?_setCell_same' W ⟨w.heap.size, 0, none⟩ v (by rw [hc]; rfl)
  · rw [World.frozen?_drew, World.frozen?_setCell]; exact hf
  · exact (Below.heap_setCell _ _ _ _ (by show w.heap.size + 2 ≠ w.heap.size; omega)).trans ht

set_option maxRecDepth 100000 in
set_option maxHeartbeats 2000000 in
theorem more_any (c : Nat) (hc : c < 4294967296) (s : ByteArray) (hs : s.size ≤ maxLen) (w : World) :
    Calls Tryz.prog 157 #[.int .u32 c, .string s] w fun e W' => e = .returned (.int .u32 (more c s.data.toList : Nat)) ∧ Below w.heap.size w W' := by
  have z := zero_tab
  refine (callsIn_wide (n := 9)).1 (callsIn_of_wp_marks Tryz.func157 rfl trivial ?_ rfl)
  refine wpIn_wide.2 ?_
  simp only [Tryz.ntmps157, List.size_toArray, List.length_cons, List.length_nil, Nat.reduceAdd, Nat.reduceSub, Array.replicate_succ, Array.replicate_zero, List.push_toArray, List.append_toArray, List.nil_append, List.cons_append]
  go_wp2_with (first | (go_at_call 159; refine (table_any _).mono ?_; rintro e w' ⟨rfl, rfl⟩) | (go_at_call 160; refine (callsIn_wide.1 (bytes_in 9 _ _)).mono ?_; rintro e w' ⟨rfl, rfl⟩) | (refine wpList_store_row rfl 231 _ _ rfl (w.heap.size + 1 + 1) (tab 256) rfl rfl 231 (tab 0) ?_ (by kernel_rfl) tab_size0 tab_all ?_; (· have hh := heap_alloc_new ((w.alloc (.cells #[.int .u32 c] 58)).alloc (.cells (tab 256) 231)) (.cells (tab 0) 231); rw [World.size_alloc, World.size_alloc] at hh; exact hh)))
  have hset : (((w.alloc (.cells #[.int .u32 c] 58)).alloc (.cells (tab 256) 231)).alloc (.cells (tab 0) 231)).setRow (w.heap.size + 1 + 1) (tab 256) = ((w.alloc (.cells #[.int .u32 c] 58)).alloc (.cells (tab 256) 231)).alloc (.cells (tab 256) 231) := by
    have := World.setRow_alloc_new ((w.alloc (.cells #[.int .u32 c] 58)).alloc (.cells (tab 256) 231)) (tab 0) (tab 256) 231
    rw [World.size_alloc, World.size_alloc] at this
    exact this
  rw [hset]
  obtain ⟨W0, hW0, hsz, hB0, hc0, hf0, ht0, hs0⟩ : ∃ W0 : World, (((w.alloc (.cells #[.int .u32 c] 58)).alloc (.cells (tab 256) 231)).alloc (.cells (tab 256) 231)).alloc (.cells #[.string s] 9) = W0 ∧ W0.heap.size = w.heap.size + 4 ∧ Below w.heap.size w W0 ∧
      W0.cell? ⟨w.heap.size, 0, none⟩ = some (.int .u32 c) ∧ W0.frozen? ⟨w.heap.size, 0, none⟩ = false ∧ W0.heap[w.heap.size + 2]? = some (.cells (tab 256) 231) ∧ W0.cell? ⟨w.heap.size + 3, 0, none⟩ = some (.string s) := by
    refine ⟨_, rfl, by simp, (((((Below.refl _ w).alloc (Nat.le_refl _) _).alloc (by simp) _).alloc (by simp; omega) _).alloc (by simp; omega) _), ?_, ?_, ?_, ?_⟩
    · exact (cl_of (c := #[.int .u32 c]) (t := 58) (fz := (0, 0)) (by rw [hp_old _ _ (by simp only [World.size_alloc]; omega), hp_old _ _ (by simp only [World.size_alloc]; omega), hp_old _ _ (by simp only [World.size_alloc]; omega), hp_new _ _ rfl]) 0).trans rfl
    · exact fz_of (c := #[.int .u32 c]) (t := 58) (by rw [hp_old _ _ (by simp only [World.size_alloc]; omega), hp_old _ _ (by simp only [World.size_alloc]; omega), hp_old _ _ (by simp only [World.size_alloc]; omega), hp_new _ _ rfl]) 0
    · rw [hp_old _ _ (by simp), hp_new _ _ (by simp)]
    · exact (cl_of (c := #[.string s]) (t := 9) (fz := (0, 0)) (by rw [hp_new _ _ (by simp)]) 0).trans rfl
  rw [hW0]
  clear hset hW0
  refine (wpIn_wide (n := 9)).1 ?_
  refine wpIn_rangeFunc_ownF rfl (by omega) (gf := 161) (lb := #[.pointer (some ⟨w.heap.size + 1 + 1 + 1, 0, none⟩)]) rfl trivial (enters_of Tryz.func161 (by kernel_rfl) rfl)
    (bytes_stops 8 (by omega) (w.heap.size + 1 + 1 + 1) s hs W0 (by omega) hs0) KeepB.t (KeepB.b (by intro b hb; omega)) (Below.refl _ _) (fun _ => rfl)
    (fun pre W => (W.cell? ⟨w.heap.size, 0, none⟩ = some (.int .u32 (more c pre : Nat)) ∧ W.frozen? ⟨w.heap.size, 0, none⟩ = false ∧ W.heap[w.heap.size + 2]? = some (.cells (tab 256) 231)) ∧ Below w.heap.size w W)
    (fun _ _ _ => False)
    (OwnFrom.and (Own.from (fun s A B row hs hg hr => ⟨cell_kept hs.1 hg hr, (frozen_kept hs.1 hg hr).trans hs.2.1, block_kept hs.2.2 rfl hg hr⟩) _) (ownFrom_below (Nat.le_refl _) (by omega)))
    (fun _ _ _ _ _ hs _ _ => hs)
    ⟨⟨hc0, hf0, ht0⟩, hB0⟩
    (fun x => { tmps := #[.int .u32 c, .string s, .pointer (some ⟨w.heap.size, 0, none⟩), undef, .int .u32 0, .pointer (some ⟨w.heap.size + 1 + 1, 0, none⟩), .int .u8 x.toNat, .agg (tab 256), .string s, .func (.func 161) #[] #[.pointer (some ⟨w.heap.size + 1 + 1 + 1, 0, none⟩)], .int .u8 x.toNat, undef, undef, undef, undef, undef, undef, undef, undef, undef, undef], defers := [] }) ?assign ?body ?done ?stop
  case assign =>
    intro l x W K hK
    gi_wp2
    exact hK
  case body =>
    rintro l pre x W ⟨⟨hc, hf, ht⟩, hB⟩ _
    have hm : more c pre < 4294967296 := more_lt pre ‹_›
    have hx8 := x.toNat_lt
    obtain ⟨i, hi⟩ : ∃ i, i = more c pre % 256 ^^^ x.toNat := ⟨_, rfl⟩
    have hil : i < 256 := by rw [hi]; exact Nat.xor_lt_two_pow (n := 8) (by omega) (by omega)
    have hx : bits .xor .u8 (IntKind.u8.wrap (more c pre : Nat)) (x.toNat : Int) = (i : Int) := by rw [hi, IntKind.wrap_u8']; exact u8_xor_nat (more c pre % 256) x.toNat (by omega) (by omega)
    have hcell : W.cell? ⟨w.heap.size + 1 + 1, i, none⟩ = some (.int .u32 ((stn 8 i : Nat) : Int)) := by
      rw [cl_of (b := w.heap.size + 1 + 1) ht, tab_get hil, if_pos hil]
    have hv := upd_bits (b := x.toNat) hm (by omega)
    rw [← hi, ← more_snoc] at hv
    have HI := Lib.hid hi
    have HT := Lib.hid ht
    clear hi ht
    gi_wp2
    have mo : Tryz.prog.follows Departure.mixedOrders = true := by kernel_rfl
    gi_region_with_o (fail)
    all_goals gi_wp2
    all_goals exact more_round hc hf HT.out hB _
  case done =>
    rintro D ys W hD rfl ⟨⟨hc, _⟩, hB⟩ hK
    go_wp2
    refine ⟨by simp, .inl ⟨_, _, rfl, run_takeDeferred hK, ?_⟩⟩
    exact ⟨_, results_tmp rfl _ _ _, rfl, hB.trans (belowK_b (w := w) (Nat.le_refl _) W D _ _ (by omega) hK rfl rfl)⟩
  case stop =>
    rintro D c pre W _ _ h _
    exact h.elim
end Go.Proofs.YtjjphcnoegaimaaGreat
