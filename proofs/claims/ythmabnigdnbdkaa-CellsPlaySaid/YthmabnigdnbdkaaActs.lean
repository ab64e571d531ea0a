/- A slice of bools that comes in; what a step does (lunettelaw13.act). -/
import Derived.Test.YthmabnigdnbdkaaApartPlain
import Derived.Test.YthmabnigdnbdkaaSeqOff
import Derived.Deep.Grids
namespace Go.Proofs.Ythmabnigdnbdkaa
open Go.RowKit Go.ChangeShapes Go.WideShapes Go.Deep
set_option maxRecDepth 100000

/-- A slice of bools. -/
structure SlB (W : World) (v : Value) (bs : List Bool) : Prop where
  val : ∃ ao cap, v = .slice ao bs.length cap ∧ (0 < bs.length → ∃ b off, ao = some ⟨b, off, none⟩ ∧ b < W.heap.size ∧ ∀ i, i < bs.length → W.cell? ⟨b, off + i, none⟩ = some (.bool (bs.getD i false)))
theorem open_bls {H : Type} {enc : TypeId × Value → H} {w : World} {base : Nat} {held : Bool} {v : Value} {d : DataW H} {ps : List MemPlace}
    {r : Reach} {b0 : Nat} (hval : Value.okWide Try.prog w r b0 23 v) (hd : DataW.Trod enc Try.prog w base (fun _ => true) held 23 v d ps) : ∃ bs, SlB w v bs := by
  obtain ⟨fuel, hf⟩ := hd
  obtain ⟨ao, n, c, hv⟩ : ∃ ao n c, v = .slice ao n c := okWide_slice Try.underlying23 hval
  subst hv
  rcases open_bools Try.underlying23 Try.underlying4 (by kernel_rfl) hf with ⟨h1, h2⟩ | ⟨a, len, cap, B, hv, hb, hl, hm, hx, hcell⟩
  · have : Value.slice ao n c = .slice none 0 0 := by simpa [Value.cells] using h1
    cases this
    exact ⟨[], ⟨_, _, rfl, fun h => absurd h (by simp)⟩⟩
  · have : Value.slice ao n c = .slice (some a) len cap := by simpa [Value.cells] using hv
    cases this
    refine ⟨(List.range n).map B, ⟨some a, c, by simp, fun h => ?_⟩⟩
    simp at h
    have h0 := hcell 0 (by omega)
    obtain ⟨b, off, rfl⟩ := addr_plain h0
    refine ⟨b, off, rfl, lt_of_cell' h0, fun i hi => ?_⟩
    simp at hi
    have h1 := hcell i (by omega)
    rw [List.getD_eq_getElem?_getD]
    simp only [List.getElem?_map, List.getElem?_range hi, Option.map_some, Option.getD_some]
    simpa only [Go.WideShapes.add_plain] using h1

/-- A step's cells as a value. -/
def stqV (s : Stq) : Value := .agg #[.int .i64 s.op, .int .i64 s.core, .int .u64 s.k, .int .i64 s.v]
set_option maxHeartbeats 2000000 in
theorem act_any {w0 w : World} {p m : Nat} {on : Bool} {N N' : List (Int × Int)} {S : List Touch} (h : CO w0 p m on N S w) (hn : Few S) (s : Stq) (core : Int) {c : Int} (hc : ar s N = c) (hN : an s N = N') :
    Calls Try.prog 15 #[.pointer (some ⟨p, 0, none⟩), .agg #[.int .i64 s.op, .int .i64 s.core, .int .u64 s.k, .int .i64 s.v], .int .i64 core] w fun e w' => e = .returned (.int .i64 c) ∧ CO w0 p m on N' (logged on S (atch core s)) w' ∧ Kt w w' ∧ w.heap.size ≤ w'.heap.size := by
  obtain ⟨sop, score, sk, sval⟩ := s
  dsimp only
  obtain ⟨T, hTe⟩ : ∃ T, w.heap.size = T := ⟨_, rfl⟩
  obtain ⟨w1, hw1⟩ : ∃ w1, w.alloc (.cells #[.int .i64 sop, .int .i64 score, .int .u64 sk, .int .i64 sval] 32) = w1 := ⟨_, rfl⟩
  have hT : w1.heap[T]? = some (.cells #[.int .i64 sop, .int .i64 score, .int .u64 sk, .int .i64 sval] 32 (0, 0)) := by rw [← hw1, ← hTe]; exact hp_new _ _ rfl
  have h1 : CO w0 p m on N S w1 := by rw [← hw1]; exact h.fr (frm_alloc (Fr.refl _ _) _)
  have hk1 : Kt w w1 := fun l cs t fz hb _ _ => by rw [← hw1]; exact (blk_old hb _).trans hb.symm
  have hs1 : w.heap.size ≤ w1.heap.size := by rw [← hw1]; simp
  have HW := Lib.hid hw1
  have HT := Lib.hid hTe
  clear hw1 hTe
  have t0 := cl_of hT 0
  have t2 := cl_of hT 2
  have t3 := cl_of hT 3
  obtain ⟨sv, hcc, hk⟩ := h1.ex
  have fin : ∀ {b : Bool} {N2 : List (Int × Int)} {w2 : World}, CStep w1 p m sv on N2 (logged on S ⟨core, sk, b⟩) w2 → an ⟨sop, score, sk, sval⟩ N = N2 → awr ⟨sop, score, sk, sval⟩ = b →
      CO w0 p m on N' (logged on S (atch core ⟨sop, score, sk, sval⟩)) w2 ∧ Kt w w2 ∧ w.heap.size ≤ w2.heap.size := by
    intro b N2 w2 hst e1 e2
    refine ⟨?_, fun l cs t fz hb n1 n2 => ?_, Nat.le_trans hs1 (by obtain ⟨_, _, hf, _⟩ := hst; exact hf.size)⟩
    · rw [← hN, e1, show atch core ⟨sop, score, sk, sval⟩ = ⟨core, sk, b⟩ by rw [atch, e2]]
      exact h1.step hk hst
    · have := hk1 l cs t fz hb n1 n2
      exact ((hst.kt hcc) l cs t fz (this.trans hb) n1 n2).trans this
  by_cases o1 : sop = 1
  · have hc' : (0 : Int) = c := by rw [← hc]; simp [ar, o1]
    have q1 : (sop == 1) = true := by simpa using o1
    subst hc'
    have O1 := Lib.hid o1
    clear hc o1
    go_enter Try.func15, Try.ntmps15
    go_wp2_with fail
    rw [HT.out, HW.out]
    refine (write_any hcc hn core sk sval).mono ?_
    rintro e w2 ⟨rfl, hst⟩
    go_wp2_with fail
    go_ret
    exact ⟨rfl, fin hst (by simp [an, O1.out]) (by simp [awr, O1.out])⟩
  · have q1 : (sop == 1) = false := by simpa using o1
    by_cases o2 : sop = 2
    · have hc' : nget sk N = c := by rw [← hc]; simp [ar, o1]
      have q2 : (sop == 2) = true := by simpa using o2
      subst hc'
      have O2 := Lib.hid o2
      clear hc o2
      go_enter Try.func15, Try.ntmps15
      go_wp2_with fail
      rw [HT.out, HW.out]
      refine (add_any hcc hn core sk sval).mono ?_
      rintro e w2 ⟨rfl, hst⟩
      go_wp2_with fail
      go_ret
      exact ⟨rfl, fin hst (by simp [an, O2.out]) (by simp [awr, O2.out])⟩
    · have hc' : nget sk N = c := by rw [← hc]; simp [ar, o1]
      have q2 : (sop == 2) = false := by simpa using o2
      subst hc'
      clear hc
      go_enter Try.func15, Try.ntmps15
      go_wp2_with fail
      rw [HT.out, HW.out]
      refine (read_any hcc hn core sk).mono ?_
      rintro e w2 ⟨rfl, hst⟩
      go_wp2_with fail
      go_ret
      exact ⟨rfl, fin hst (by simp [an, o1, o2]) (by simp [awr, o1, o2])⟩
theorem act4 {w0 w : World} {p m : Nat} {on : Bool} {N N' : List (Int × Int)} {S S' : List Touch} (h : CO w0 p m on N S w) (hn : Few S) (zo zc zk zv core : Int) {c : Int} (hc : ar ⟨zo, zc, zk, zv⟩ N = c) (hN : an ⟨zo, zc, zk, zv⟩ N = N') (hS : logged on S (atch core ⟨zo, zc, zk, zv⟩) = S') :
    Calls Try.prog 15 #[.pointer (some ⟨p, 0, none⟩), .agg #[.int .i64 zo, .int .i64 zc, .int .u64 zk, .int .i64 zv], .int .i64 core] w fun e w' => e = .returned (.int .i64 c) ∧ CO w0 p m on N' S' w' ∧ Kt w w' ∧ w.heap.size ≤ w'.heap.size := hS ▸ act_any h hn ⟨zo, zc, zk, zv⟩ core hc hN
/-- Blocks of other types may turn. -/
theorem CO.away {w0 w w' : World} {p m : Nat} {on : Bool} {N : List (Int × Int)} {S : List Touch} (h : CO w0 p m on N S w) {T : Nat → Prop} (hf : Fr T w w') (hT : ∀ k, T k → w0.heap.size ≤ k ∧ ∃ cs t fz, w.heap[k]? = some (.cells cs t fz) ∧ t ≠ 91 ∧ t ≠ 88) : CO w0 p m on N S w' := by
  obtain ⟨sv, hc, hk⟩ := h.ex
  refine ⟨⟨sv, hc.fr hf (fun k hk' e => ?_), hk⟩, Fr.step h.below hf h.below.size (fun k e => (hT k e).1)⟩
  obtain ⟨_, cs, t, fz, hb, h1, h2⟩ := hT k e
  exact hc.away hb h1 h2 hk'
theorem Try.infoI64 : (Try.prog.info? 2).map (fun i => (i.zero, i.size, i.bytes)) = some (some (.int .i64 0), 1, 8) := by kernel_rfl
end Go.Proofs.Ythmabnigdnbdkaa
