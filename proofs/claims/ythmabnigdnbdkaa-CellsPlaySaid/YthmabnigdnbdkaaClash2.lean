/- package cells: the iterator over a core's accesses. -/
import Derived.Test.YthmabnigdnbdkaaClash
namespace Go.Proofs.Ythmabnigdnbdkaa
open Go.RowKit Go.Shelf Go.Maps
attribute [local go_sem] Oper.semAt_some

def tval (t : Touch) : Value := .agg #[.int .i64 t.core, .int .u64 t.cell, .bool t.write]
/-- The blocks that the iterator reads. -/
def ofoot (B1 B2 p m : Nat) (sv : Value) (k : Nat) : Prop := k = B1 ∨ k = B2 ∨ cfoot p m sv k
/-- A touch of a cell that there may be. -/
abbrev TW := { t : Touch // (Lit.int .u64 t.cell).wf = true }
def ofc (core : Int) (S : List TW) : List TW := S.filter fun t => t.1.core == core
theorem ofc_succ {core : Int} {S : List TW} {k : Nat} (h : k < S.length) : ofc core (S.take (k + 1)) = if (S[k].1.core == core) = true then ofc core (S.take k) ++ [S[k]] else ofc core (S.take k) := by
  unfold ofc
  rw [List.take_succ_eq_append_getElem h, List.filter_append]
  split <;> simp_all

theorem touches_at : ∀ (S : List Touch) (k j : Nat) (h : k < S.length), j < 3 → (touches S)[k * 3 + j]? = (tc S[k])[j]?
  | [], _, _, h, _ => absurd h (by simp)
  | t :: S, 0, j, _, hj => by
    simp only [touches, List.flatMap_cons, Nat.zero_mul, Nat.zero_add, List.getElem_cons_zero]
    rw [List.getElem?_append_left (by simp [tc]; omega)]
  | t :: S, k + 1, j, h, hj => by
    have ih := touches_at S k j (by simpa using h) hj
    simp only [touches, List.flatMap_cons, List.getElem_cons_succ] at ih ⊢
    rw [List.getElem?_append_right (by simp [tc]; omega), ← ih]
    congr 1
    simp [tc]
    omega

set_option maxRecDepth 100000 in
set_option maxHeartbeats 2000000 in
theorem of1_in (n l B1 B2 : Nat) (hn : 1 ≤ n) (core : Int) {p m : Nat} {sv : Value} {on : Bool} {N : List (Int × Int)} {SW : List TW} (hf : Few (SW.map Subtype.val)) (J Jx : List TW → World → Prop)
    (hY : ∀ pre x W, J pre W → pre.length < SW.length → YieldAt Fence.wide (n - 1) Try.prog l #[tval x.1] W fun e W' =>
      (e = .returned (.bool true) ∧ J (pre ++ [x]) W' ∧ KeepB (ofoot B1 B2 p m sv) W W') ∨ (e = .returned (.bool false) ∧ Jx (pre ++ [x]) W'))
    (W : World) (hJ : AbidesFrom W.heap.size J) (h : CellsAt W p m sv on N (SW.map Subtype.val)) (h1 : W.heap[B1]? = some (.cells #[.pointer (some ⟨p, 0, none⟩)] 25 (0, 0))) (h2 : W.heap[B2]? = some (.cells #[.int .i64 core] 3 (0, 0))) (h0 : J [] W) :
    CallsIn Fence.wide n Try.prog 68 #[.func (.yield l) #[] #[], .pointer (some ⟨B1, 0, none⟩), .pointer (some ⟨B2, 0, none⟩)] W fun e W' => (∃ v, e = .returned v) ∧
      ((∃ ys, ys = ofc core SW ∧ J ys W') ∨ (∃ pre, True ∧ Jx pre W')) := by
  have hlen0 : (SW.map Subtype.val).length = SW.length := by simp
  generalize hSW : SW.map Subtype.val = S at *
  have HL0 := Lib.hid hlen0
  have HSW := Lib.hid hSW
  clear hlen0 hSW
  have hfo := hf.out
  have c1 : W.cell? ⟨B1, 0, none⟩ = some (.pointer (some ⟨p, 0, none⟩)) := cl_of h1 0
  have c2 : W.cell? ⟨B2, 0, none⟩ = some (.int .i64 core) := cl_of h2 0
  have cp : W.cell? ⟨p, 1, none⟩ = some sv := cl_of h.obj 1
  rcases h.row.2 with ⟨rfl, hz⟩ | ⟨g, cap, cur, rfl, hr⟩
  · have hS : SW = [] := List.eq_nil_of_length_eq_zero (by rw [← HL0.out]; exact hz)
    subst hS
    obtain rfl : S = [] := by simpa using HSW.out.symm
    refine callsIn_of_wp Try.func68 rfl trivial ?_ rfl
    simp only [Try.ntmps68, List.size_toArray, List.length_cons, List.length_nil, Nat.reduceAdd, Nat.reduceSub, Array.replicate_succ, Array.replicate_zero, List.push_toArray, List.append_toArray, List.nil_append, List.cons_append]
    gi_wp2
    gi_loopw [11] (fun i wr => i = .int .i64 0 ∧ J [] wr) (fun _ _ => 0)
    case atStart => exact ⟨rfl, h0⟩
    case round =>
      obtain ⟨rfl, hJs⟩ := hrel
      gi_wp2
      go_end0
      exact ⟨⟨_, rfl⟩, .inl ⟨[], rfl, hJs⟩⟩
  · have hrow : W.ownsRow 0 91 3 (.slice (some ⟨g, 0, none⟩) S.length cap) S.length (touches S) := h.row
    clear hr
    refine callsIn_of_wp Try.func68 rfl trivial ?_ rfl
    simp only [Try.ntmps68, List.size_toArray, List.length_cons, List.length_nil, Nat.reduceAdd, Nat.reduceSub, Array.replicate_succ, Array.replicate_zero, List.push_toArray, List.append_toArray, List.nil_append, List.cons_append]
    gi_wp2
    gi_loopw [11] (fun i wr => ∃ k : Nat, k ≤ S.length ∧ i = .int .i64 k ∧ J (ofc core (SW.take k)) wr ∧ KeepB (ofoot B1 B2 p m (.slice (some ⟨g, 0, none⟩) S.length cap)) W wr) (fun i _ => S.length - (intOf i).toNat)
    case atStart => exact ⟨0, Nat.zero_le _, rfl, by simpa [ofc] using h0, fun _ _ => rfl⟩
    case round =>
      obtain ⟨k, hk, rfl, hJs, hK⟩ := hrel
      by_cases hlt : k < S.length
      · have hg : wr.heap[g]? = W.heap[g]? := hK g (.inr (.inr (.inr (.inr rfl))))
        have hrow' := ownsRow_of_block (W' := wr) hrow (fun k hk => by cases hk; exact hg)
        have q0 : wr.cell? ⟨g, k * 3, none⟩ = some (.int .i64 S[k].core) := ownsRow_cell hrow' rfl (j := k * 3 + 0) ((touches_at S k 0 hlt (by decide)).trans rfl)
        have q1 : wr.cell? ⟨g, k * 3 + 1, none⟩ = some (.int .u64 S[k].cell) := ownsRow_cell hrow' rfl (j := k * 3 + 1) ((touches_at S k 1 hlt (by decide)).trans rfl)
        have q2 : wr.cell? ⟨g, k * 3 + 2, none⟩ = some (.bool S[k].write) := ownsRow_cell hrow' rfl (j := k * 3 + 2) ((touches_at S k 2 hlt (by decide)).trans rfl)
        have d2 : wr.cell? ⟨B2, 0, none⟩ = some (.int .i64 core) := (hK.cell (p := ⟨B2, 0, none⟩) (.inr (.inl rfl))).trans c2
        have hb2 : B2 < wr.heap.size := by
          have : wr.heap[B2]? = W.heap[B2]? := hK B2 (.inr (.inl rfl))
          rw [h2] at this
          exact blk_lt this
        have hgl : g < wr.heap.size := by
          obtain ⟨cur, hb⟩ := ownsRow_type hrow' rfl
          exact blk_lt hb
        have hltw : k < SW.length := by rw [← HL0.out]; exact hlt
        have hot := ofc_succ (core := core) hltw
        have hx : S[k] = SW[k].1 := by simp [← HSW.out]
        rw [hx] at q0 q1 q2
        generalize SW[k] = xw at *
        obtain ⟨x, hxwf⟩ := xw
        have HX := Lib.hid hxwf
        dsimp only at q0 q1 q2 hot
        clear hx hg hrow'
        have HOT := Lib.hid hot
        clear hot
        by_cases hcore : (x.core == core) = true
        · have hJ2 := hJ _ wr (wr.alloc (.cells #[.int .i64 x.core, .int .u64 x.cell, .bool x.write] 91)) none hJs (World.grownBy_alloc wr _ none) (fun r e => by cases e)
          have hlen : (ofc core (SW.take k)).length < SW.length := by
            have : (ofc core (SW.take k)).length ≤ (SW.take k).length := List.length_filter_le _ _
            rw [List.length_take] at this
            omega
          obtain ⟨fn, tmps, assign, body, hy, hR⟩ := hY _ ⟨x, HX.out⟩ _ hJ2 hlen
          unfold tval at hy
          gi_wp2
          refine hR.mono ?_
          rintro e W3 (⟨rfl, hJ3, hk3⟩ | ⟨rfl, hJx3⟩)
          · have hKK : KeepB (ofoot B1 B2 p m (.slice (some ⟨g, 0, none⟩) S.length cap)) W W3 := by
              refine hK.t (KeepB.t (fun b hb => hp_old wr _ ?_) hk3)
              rcases hb with rfl | rfl | hb
              · have : wr.heap[b]? = W.heap[b]? := hK b (.inl rfl)
                rw [h1] at this
                exact blk_lt this
              · exact hb2
              · have := hK b (.inr (.inr hb))
                rcases hb with rfl | rfl | hb
                · rw [h.obj] at this; exact blk_lt this
                · obtain ⟨es, cl, hm, _⟩ := h.map
                  rw [hm] at this; exact blk_lt this
                · cases hb; exact hgl
            gi_wp2
            go_roundw
            case rel => exact ⟨k + 1, by omega, by go_num, by rw [HOT.out, if_pos hcore]; exact hJ3, hKK⟩
            case measure => simp [intOf]; omega
          · gi_wp2
            refine bodyPost_ret (results_none rfl _ _ _) rfl ?_
            exact ⟨⟨_, rfl⟩, .inr ⟨_, trivial, hJx3⟩⟩
        · have hcf : (x.core == core) = false := by simpa using hcore
          have hJ2 := hJ _ wr (wr.alloc (.cells #[.int .i64 x.core, .int .u64 x.cell, .bool x.write] 91)) none hJs (World.grownBy_alloc wr _ none) (fun r e => by cases e)
          have hKK : KeepB (ofoot B1 B2 p m (.slice (some ⟨g, 0, none⟩) S.length cap)) W (wr.alloc (.cells #[.int .i64 x.core, .int .u64 x.cell, .bool x.write] 91)) := by
            refine hK.t (fun b hb => hp_old wr _ ?_)
            rcases hb with rfl | rfl | hb
            · have : wr.heap[b]? = W.heap[b]? := hK b (.inl rfl)
              rw [h1] at this
              exact blk_lt this
            · exact hb2
            · have := hK b (.inr (.inr hb))
              rcases hb with rfl | rfl | hb
              · rw [h.obj] at this; exact blk_lt this
              · obtain ⟨es, cl, hm, _⟩ := h.map
                rw [hm] at this; exact blk_lt this
              · cases hb; exact hgl
          gi_wp2
          refine ⟨(fun _ h => (by cases h)), ?_⟩
          gi_wp2
          go_roundw
          case rel => exact ⟨k + 1, by omega, by go_num, by rw [HOT.out, if_neg hcore]; exact hJ2, hKK⟩
          case measure => simp [intOf]; omega
      · obtain rfl : k = S.length := by omega
        gi_wp2
        go_end0
        exact ⟨⟨_, rfl⟩, .inl ⟨_, rfl, by rw [List.take_of_length_le (by rw [HL0.out]; exact Nat.le_refl _)] at hJs; exact hJs⟩⟩

theorem of_in (n : Nat) (p : Nat) (core : Int) (w : World) :
    CallsIn Fence.wide n Try.prog 53 #[.pointer (some ⟨p, 0, none⟩), .int .i64 core] w fun e w' => e = .returned (.func (.func 68) #[] #[.pointer (some ⟨w.heap.size, 0, none⟩), .pointer (some ⟨w.heap.size + 1, 0, none⟩)]) ∧ (w.alloc (.cells #[.pointer (some ⟨p, 0, none⟩)] 25)).alloc (.cells #[.int .i64 core] 3) = w' := by
  refine callsIn_of_wp Try.func53 rfl trivial ?_ rfl
  simp only [Try.ntmps53, List.size_toArray, List.length_cons, List.length_nil, Nat.reduceAdd, Nat.reduceSub, Array.replicate_succ, Array.replicate_zero, List.push_toArray, List.append_toArray, List.nil_append, List.cons_append]
  gi_wp2
  go_ret
  exact ⟨rfl, rfl⟩

theorem of_stops (n : Nat) (hn : 1 ≤ n) (B1 B2 : Nat) (core : Int) {p m : Nat} {sv : Value} {on : Bool} {N : List (Int × Int)} {SW : List TW} (hf : Few (SW.map Subtype.val)) (w : World) (h : CellsAt w p m sv on N (SW.map Subtype.val))
    (h1 : w.heap[B1]? = some (.cells #[.pointer (some ⟨p, 0, none⟩)] 25 (0, 0))) (h2 : w.heap[B2]? = some (.cells #[.int .i64 core] 3 (0, 0))) :
    SeqStopsK Fence.wide n Try.prog 68 #[.pointer (some ⟨B1, 0, none⟩), .pointer (some ⟨B2, 0, none⟩)] (fun x : TW => #[tval x.1]) (KeepB (ofoot B1 B2 p m sv)) (fun ys => ys = ofc core SW) (fun _ => True) SW.length w :=
  fun l J Jx W hW hJ _ hY h0 => of1_in n l B1 B2 hn core hf J Jx hY W hJ (h.fr (Fr.of_below hW) (fun _ _ => id)) ((hW.block B1 (blk_lt h1)).trans h1) ((hW.block B2 (blk_lt h2)).trans h2) h0
end Go.Proofs.Ythmabnigdnbdkaa
