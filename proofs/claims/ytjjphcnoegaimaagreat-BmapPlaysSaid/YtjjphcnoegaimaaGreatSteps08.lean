/- A slice of steps that comes in, as a list. -/
import Derived.Test.YtjjphcnoegaimaaGreatProg
import Derived.Test.YtjjphcnoegaimaaGreatStrs
import Derived.ChangeSlices
import Derived.OpenShut
import Derived.ChangeArms
import Derived.Deep.Slices
import Derived.Deep.Fields
import Derived.ChangeSame
namespace Go.Proofs.YtjjphcnoegaimaaGreat
set_option maxRecDepth 100000
open Go.RowKit Go.ChangeShapes Go.WideShapes Go.Deep

section
variable {H : Type} {enc : TypeId × Value → H} {P : Program} {w : World} {base : Nat} {spare : Nat → Bool} {held : Bool}
theorem open_slice_fields {t e : TypeId} {fs : Array Field} {fuel : Nat} {cs : List Value} {x : DataW H × List MemPlace} (ht : P.underlying t = some (.slice e)) (he : P.underlying e = some (.struct fs))
    (hone : oneCellFields P fs = true) (hC : P.cellsOf e = fs.size) (h : DataW.trod enc P w base spare held fuel t cs = some x) :
    (cs = [.slice none 0 0] ∧ x = (.nil, [])) ∨
    ∃ (a : Addr) (len cap m : Nat) (D : Nat → DataW H) (Pl : Nat → List MemPlace), cs = [.slice (some a) len cap] ∧ base ≤ a.block ∧ len ≤ cap ∧ cap ≤ maxLen ∧ m = (if spare a.block then cap else len) ∧
      x = (.slice ((List.range len).map D) ((List.range (m - len)).map fun j => D (len + j)), MemPlace.row a (m * fs.size) ++ (List.range m).flatMap Pl) ∧
      ∀ i, i < m → ∃ (ys : List (DataW H × List MemPlace)) (n : Nat), D i = .agg (ys.map (·.1)) ∧ Pl i = ys.flatMap (·.2) ∧ ys.length = fs.size ∧
        ∀ (j : Nat) (f : Field), fs[j]? = some f → ∃ (v : Value) (y : DataW H × List MemPlace), w.cell? (a.add (i * fs.size + j)) = some v ∧ ys[j]? = some y ∧ DataW.trod enc P w base spare held n f.type [v] = some y := by
  rcases open_slice ht h with h0 | ⟨a, len, cap, m, n, D, Pl, hcs, hb, hl, hm, hmm, hx, hi⟩
  · exact .inl h0
  · refine .inr ⟨a, len, cap, m, D, Pl, hcs, hb, hl, hm, hmm, by rw [hC] at hx; exact hx, fun i him => ?_⟩
    obtain ⟨cs', hc, ht'⟩ := hi i him
    rw [hC] at hc
    obtain ⟨ys, n', hn', hy, hlen, hyl, hf⟩ := DataW.trod_struct he ht'
    obtain ⟨_, hcl, hat⟩ := World.cells?_some hc
    simp only [Prod.mk.injEq] at hy
    refine ⟨ys, n', hy.1, hy.2, hyl, fun j f hj => ?_⟩
    obtain ⟨ho, hk⟩ := hone_of hone j f hj
    have hjl : j < fs.size := (Array.getElem?_eq_some_iff.1 hj).1
    have hcell := hat j hjl
    have hv : cs'[j]? = some (cs'[j]'(by omega)) := List.getElem?_eq_getElem (by omega)
    have h1 := hf j f hj
    rw [ho, hk] at h1
    have hone' : (cs'.drop j).take 1 = [cs'[j]'(by omega)] := by
      rw [List.drop_eq_getElem_cons (by omega)]
      rfl
    rw [hone'] at h1
    have hys : ys[j]? = some (ys[j]'(by omega)) := List.getElem?_eq_getElem (by omega)
    refine ⟨_, _, ?_, hys, h1.trans hys⟩
    rw [← Go.Deep.add_add, hcell, hv]
end

theorem lt_of_cell' {w : World} {a : Addr} {v : Value} (hc : w.cell? a = some v) : a.block < w.heap.size := by
  rcases Nat.lt_or_ge a.block w.heap.size with h' | h'
  · exact h'
  · simp [World.cell?, Array.getElem?_eq_none h'] at hc

/-- A step. -/
structure St3 where
  op : Int
  i : Int
  k : Int
  s : ByteArray
  raw : Bool
def st0 : St3 := ⟨0, 0, 0, ByteArray.empty, false⟩
/-- A step's cells. -/
def st3c (W : World) (b o : Nat) (x : St3) : Prop := W.cell? ⟨b, o, none⟩ = some (.int .i64 x.op) ∧ W.cell? ⟨b, o + 1, none⟩ = some (.int .i64 x.i) ∧ W.cell? ⟨b, o + 2, none⟩ = some (.int .i64 x.k) ∧ W.cell? ⟨b, o + 3, none⟩ = some (.string x.s) ∧ W.cell? ⟨b, o + 4, none⟩ = some (.bool x.raw)
/-- A slice of steps. -/
structure Sl3 (W : World) (v : Value) (ls : List St3) : Prop where
  val : ∃ ao cap, v = .slice ao ls.length cap ∧ (0 < ls.length → ∃ b off, ao = some ⟨b, off, none⟩ ∧ b < W.heap.size ∧ ∀ i, i < ls.length → st3c W b (off + i * 5) (ls.getD i st0))
  wf : ∀ n ∈ ls, (Lit.int .i64 n.op).wf = true ∧ (Lit.int .i64 n.i).wf = true ∧ (Lit.int .i64 n.k).wf = true ∧ n.s.size ≤ maxLen

theorem addr_plain {w : World} {a : Addr} {v : Value} (h : w.cell? (a.add 0) = some v) : ∃ b off, a = ⟨b, off, none⟩ := by
  obtain ⟨b, off, spot⟩ := a
  have hspot : spot = none := by simpa [Addr.add] using World.cell?_spot h
  subst hspot
  exact ⟨b, off, rfl⟩

theorem open_steps3 {H : Type} {enc : TypeId × Value → H} {w : World} {base : Nat} {held : Bool} {spare : Nat → Bool} {v : Value} {d : DataW H} {ps : List MemPlace}
    {r : Reach} {b0 : Nat} (hval : Value.okWide Tryz.prog w r b0 22 v) (hd : DataW.Trod enc Tryz.prog w base spare held 22 v d ps) : ∃ ls, Sl3 w v ls := by
  obtain ⟨fuel, hf⟩ := hd
  obtain ⟨ao, n, c, hv⟩ : ∃ ao n c, v = .slice ao n c := okWide_slice Tryz.underlying22 hval
  subst hv
  rcases open_slice_fields Tryz.underlying22 Tryz.underlying42 (by kernel_rfl) (by kernel_rfl) hf with ⟨h1, h2⟩ | ⟨a, len, cap, m, D, Pl, hv, hb, hl, hm, hmm, hx, hfs⟩
  · have : Value.slice ao n c = .slice none 0 0 := by simpa [Value.cells] using h1
    cases this
    exact ⟨[], ⟨⟨_, _, rfl, fun h => absurd h (by simp)⟩, fun n hn => absurd hn (by simp)⟩⟩
  · have : Value.slice ao n c = .slice (some a) len cap := by simpa [Value.cells] using hv
    cases this
    have hln : n ≤ m := by rw [hmm]; split <;> omega
    have hone : ∀ i, ∃ s : St3, i < n → (w.cell? (a.add (i * 5)) = some (.int .i64 s.op) ∧ w.cell? (a.add (i * 5 + 1)) = some (.int .i64 s.i) ∧ w.cell? (a.add (i * 5 + 2)) = some (.int .i64 s.k) ∧ w.cell? (a.add (i * 5 + 3)) = some (.string s.s) ∧ w.cell? (a.add (i * 5 + 4)) = some (.bool s.raw)) ∧
        (Lit.int .i64 s.op).wf = true ∧ (Lit.int .i64 s.i).wf = true ∧ (Lit.int .i64 s.k).wf = true ∧ s.s.size ≤ maxLen := by
      intro i
      by_cases hi : i < n
      · obtain ⟨ys, k, _, _, _, hg⟩ := hfs i (by omega)
        obtain ⟨v0, y0, c0, _, t0⟩ := hg 0 _ rfl
        obtain ⟨v1, y1, c1, _, t1⟩ := hg 1 _ rfl
        obtain ⟨v2, y2, c2, _, t2⟩ := hg 2 _ rfl
        obtain ⟨v3, y3, c3, _, t3⟩ := hg 3 _ rfl
        obtain ⟨v4, y4, c4, _, t4⟩ := hg 4 _ rfl
        obtain ⟨n0, e0, _, w0⟩ := DataW.trod_int Tryz.underlying3 t0
        obtain ⟨n1, e1, _, w1⟩ := DataW.trod_int Tryz.underlying3 t1
        obtain ⟨n2, e2, _, w2⟩ := DataW.trod_int Tryz.underlying3 t2
        obtain ⟨n3, e3, _, w3⟩ := DataW.trod_string Tryz.underlying9 t3
        obtain ⟨n4, e4, _⟩ := DataW.trod_bool Tryz.underlying4 t4
        simp only [List.cons.injEq, and_true] at e0 e1 e2 e3 e4
        subst e0 e1 e2 e3 e4
        exact ⟨⟨n0, n1, n2, n3, n4⟩, fun _ => ⟨⟨c0, c1, c2, c3, c4⟩, w0, w1, w2, w3⟩⟩
      · exact ⟨st0, fun h => absurd h hi⟩
    obtain ⟨f, hfn⟩ := Classical.axiomOfChoice hone
    have hg : ∀ i, i < n → ((List.range n).map f).getD i st0 = f i := fun i hi => by simp [List.getD_eq_getElem?_getD, hi]
    refine ⟨(List.range n).map f, ⟨⟨some a, c, by simp, fun h => ?_⟩, ?_⟩⟩
    · simp at h
      obtain ⟨b, off, rfl⟩ := addr_plain (hfn 0 h).1.1
      refine ⟨b, off, rfl, lt_of_cell' (hfn 0 h).1.1, fun i hi => ?_⟩
      simp at hi
      rw [hg i hi]
      have h4 := (hfn i hi).1
      unfold st3c
      simpa only [Go.WideShapes.add_plain, Nat.add_assoc] using h4
    · intro s hs
      simp at hs
      obtain ⟨i, hi, rfl⟩ := hs
      exact (hfn i hi).2
end Go.Proofs.YtjjphcnoegaimaaGreat
