/- A slice of SeqPlays' steps that comes in, as a list. -/
import Derived.Test.YthmabnigdnbdkaaSteps
namespace Go.Proofs.Ythmabnigdnbdkaa
set_option maxRecDepth 100000
open Go.RowKit Go.ChangeShapes Go.WideShapes Go.Deep

/-- A step of SeqPlays. -/
structure Stq where
  op : Int
  core : Int
  k : Int
  v : Int
/-- A slice of steps. -/
structure SlQ (W : World) (v : Value) (ls : List Stq) : Prop where
  val : ∃ ao cap, v = .slice ao ls.length cap ∧ (0 < ls.length → ∃ b off, ao = some ⟨b, off, none⟩ ∧ b < W.heap.size ∧ ∀ i, i < ls.length →
    W.cell? ⟨b, off + i * 4, none⟩ = some (.int .i64 (ls.getD i ⟨0, 0, 0, 0⟩).op) ∧ W.cell? ⟨b, off + i * 4 + 1, none⟩ = some (.int .i64 (ls.getD i ⟨0, 0, 0, 0⟩).core) ∧
    W.cell? ⟨b, off + i * 4 + 2, none⟩ = some (.int .u64 (ls.getD i ⟨0, 0, 0, 0⟩).k) ∧ W.cell? ⟨b, off + i * 4 + 3, none⟩ = some (.int .i64 (ls.getD i ⟨0, 0, 0, 0⟩).v))
  wf : ∀ n ∈ ls, (Lit.int .i64 n.op).wf = true ∧ (Lit.int .i64 n.core).wf = true ∧ (Lit.int .u64 n.k).wf = true ∧ (Lit.int .i64 n.v).wf = true

theorem open_steps15 {H : Type} {enc : TypeId × Value → H} {w : World} {base : Nat} {held : Bool} {spare : Nat → Bool} {v : Value} {d : DataW H} {ps : List MemPlace}
    {r : Reach} {b0 : Nat} (hval : Value.okWide Try.prog w r b0 61 v) (hd : DataW.Trod enc Try.prog w base spare held 61 v d ps) : ∃ ls, SlQ w v ls := by
  obtain ⟨fuel, hf⟩ := hd
  obtain ⟨ao, n, c, hv⟩ : ∃ ao n c, v = .slice ao n c := okWide_slice Try.underlying61 hval
  subst hv
  rcases open_slice_fields Try.underlying61 Try.underlying66 (by kernel_rfl) (by kernel_rfl) hf with ⟨h1, h2⟩ | ⟨a, len, cap, m, D, Pl, hv, hb, hl, hm, hmm, hx, hfs⟩
  · have : Value.slice ao n c = .slice none 0 0 := by simpa [Value.cells] using h1
    cases this
    exact ⟨[], ⟨⟨_, _, rfl, fun h => absurd h (by simp)⟩, fun n hn => absurd hn (by simp)⟩⟩
  · have : Value.slice ao n c = .slice (some a) len cap := by simpa [Value.cells] using hv
    cases this
    have hln : n ≤ m := by rw [hmm]; split <;> omega
    have hone : ∀ i, ∃ s : Stq, i < n → (w.cell? (a.add (i * 4)) = some (.int .i64 s.op) ∧ w.cell? (a.add (i * 4 + 1)) = some (.int .i64 s.core) ∧ w.cell? (a.add (i * 4 + 2)) = some (.int .u64 s.k) ∧ w.cell? (a.add (i * 4 + 3)) = some (.int .i64 s.v)) ∧
        (Lit.int .i64 s.op).wf = true ∧ (Lit.int .i64 s.core).wf = true ∧ (Lit.int .u64 s.k).wf = true ∧ (Lit.int .i64 s.v).wf = true := by
      intro i
      by_cases hi : i < n
      · obtain ⟨ys, k, _, _, _, hg⟩ := hfs i (by omega)
        obtain ⟨v0, y0, c0, _, t0⟩ := hg 0 _ rfl
        obtain ⟨v1, y1, c1, _, t1⟩ := hg 1 _ rfl
        obtain ⟨v2, y2, c2, _, t2⟩ := hg 2 _ rfl
        obtain ⟨v3, y3, c3, _, t3⟩ := hg 3 _ rfl
        obtain ⟨n0, e0, _, w0⟩ := DataW.trod_int Try.underlying3 t0
        obtain ⟨n1, e1, _, w1⟩ := DataW.trod_int Try.underlying3 t1
        obtain ⟨n2, e2, _, w2⟩ := DataW.trod_int Try.underlying30 t2
        obtain ⟨n3, e3, _, w3⟩ := DataW.trod_int Try.underlying2 t3
        simp only [List.cons.injEq, and_true] at e0 e1 e2 e3
        subst e0 e1 e2 e3
        exact ⟨⟨n0, n1, n2, n3⟩, fun _ => ⟨⟨c0, c1, c2, c3⟩, w0, w1, w2, w3⟩⟩
      · exact ⟨⟨0, 0, 0, 0⟩, fun h => absurd h hi⟩
    obtain ⟨f, hfn⟩ := Classical.axiomOfChoice hone
    have hg : ∀ i, i < n → ((List.range n).map f).getD i ⟨0, 0, 0, 0⟩ = f i := fun i hi => by simp [List.getD_eq_getElem?_getD, hi]
    refine ⟨(List.range n).map f, ⟨⟨some a, c, by simp, fun h => ?_⟩, ?_⟩⟩
    · simp at h
      obtain ⟨b, off, rfl⟩ := addr_plain (hfn 0 h).1.1
      refine ⟨b, off, rfl, lt_of_cell' (hfn 0 h).1.1, fun i hi => ?_⟩
      simp at hi
      rw [hg i hi]
      have h4 := (hfn i hi).1
      simpa only [Go.WideShapes.add_plain, Nat.add_assoc] using h4
    · intro s hs
      simp at hs
      obtain ⟨i, hi, rfl⟩ := hs
      exact (hfn i hi).2
end Go.Proofs.Ythmabnigdnbdkaa
