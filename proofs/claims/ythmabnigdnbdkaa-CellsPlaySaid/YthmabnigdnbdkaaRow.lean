/- A slice of the call's own that is appended to: where its block lies behind the append. -/
import Derived.Test.YthmabnigdnbdkaaBase
namespace Go.Proofs.Ythmabnigdnbdkaa
open Go.RowKit

/-- 'append' to an own row: the row stays where it lay, or lies in a new block. -/
theorem wpList_append_row {P : Program} (w : World) {ops : Array Oper} {rest : List Oper} {o : Oper} {a : Act} {Q : Exit → Act → World → Prop} (hgd : o.guard = none) (s x : Operand) (t : TypeId)
    (ho : o.op = .call { callee := .builtin .append, args := #[s, x], argTypes := #[t, t] })
    (e : TypeId) (i : TypeInfo) (z : Value) (size bytes : Nat) (ht : P.underlying t = some (.slice e)) (hi : P.info? e = some i) (hz : i.zero = some z)
    (hsize : i.size = size) (hby : i.bytes = bytes) (hzs : z.cells.size = size) (hsz : 0 < size)
    (v : Value) (n : Nat) (xs : List Value) (hs : a.eval s = v) (hown : w.ownsRow 0 e size v n xs)
    (ad : Addr) (m c : Nat) (news : List Value) (hx : a.eval x = .slice (some ad) m c) (hl : news.length = m * size) (hnews : ∀ j u, news[j]? = some u → w.cell? (ad.add j) = some u) (h1 : ∀ u ∈ news, u.oneCell' = true)
    (h63 : n + m ≤ maxLen) (hbytes : (n + m) * bytes ≤ 140737488355328)
    (h : ∀ v' w', w'.ownsRow 0 e size v' (n + m) (xs ++ news) → w.grownBy w' v.ownBlock → (v'.ownBlock = v.ownBlock ∨ ∃ g, v'.ownBlock = some g ∧ w.heap.size ≤ g ∧ g < w'.heap.size) → wpList P ops Q rest (a.put o.dst v') w') : wpList P ops Q (o :: rest) a w := by
  obtain ⟨hlen, hrow⟩ := hown
  rcases hrow with ⟨rfl, rfl⟩ | ⟨g, cap, cur, rfl, h0, hb, hnc, hcm, hcs, hct⟩
  · refine wpList_append_own w hgd s x t ho w.heap.size e i z size bytes ht hi hz hsize hby hzs hsz _ 0 xs hs ⟨hlen, .inl ⟨rfl, rfl⟩⟩ ad m c news hx hl hnews h1 h63 hbytes (Nat.le_refl _) ?_
    intro v' w' hown' hg _
    obtain ⟨hlen', hrow'⟩ := hown'
    refine h v' w' ⟨hlen', ?_⟩ hg ?_
    · rcases hrow' with h' | ⟨g, cap, cur, a1, a2, a3⟩
      · exact .inl h'
      · exact .inr ⟨g, cap, cur, a1, Nat.zero_le _, a3⟩
    · rcases hrow' with ⟨rfl, _⟩ | ⟨g, cap, cur, rfl, a2, a3, _⟩
      · exact .inl rfl
      · exact .inr ⟨g, rfl, a2, (Array.getElem?_eq_some_iff.1 a3).1⟩
  · by_cases hfit : n + m ≤ cap
    · refine wpList_append_fits w hgd s x t ho 0 e i size ht hi hsize g n cap xs hs ⟨hlen, .inr ⟨g, cap, cur, rfl, h0, hb, hnc, hcm, hcs, hct⟩⟩ ad m c news hx hl hnews h1 hfit ?_
      intro w' hown' hg
      exact h _ w' hown' hg (.inl rfl)
    · refine wpList_append_grows w hgd s x t ho e i z size bytes ht hi hz hsize hby hzs hsz (some ⟨g, 0, none⟩) n cap xs hs (fun e => by cases e) hlen ?_ ad m c news hx hl hnews h1 (by omega) h63 hbytes ?_
      · intro b hb' j u hj
        cases hb'
        rw [Addr.add_lit, Nat.zero_add, cl_of hb]
        rw [← hct] at hj
        rw [List.getElem?_take] at hj
        split at hj
        · simpa using hj
        · cases hj
      · intro v' w' hown' hg
        obtain ⟨hlen', hrow'⟩ := hown'
        refine h v' w' ⟨hlen', ?_⟩ ⟨hg.os, hg.tape, hg.output, hg.size, fun k hk _ => hg.block k hk (by simp)⟩ ?_
        · rcases hrow' with h' | ⟨g, cap, cur, a1, a2, a3⟩
          · exact .inl h'
          · exact .inr ⟨g, cap, cur, a1, Nat.zero_le _, a3⟩
        · rcases hrow' with ⟨rfl, hz⟩ | ⟨g, cap, cur, rfl, a2, a3, _⟩
          · exfalso
            omega
          · exact .inr ⟨g, rfl, a2, (Array.getElem?_eq_some_iff.1 a3).1⟩

/-- An own row while other blocks turn. -/
theorem ownsRow_of_block {W W' : World} {e : TypeId} {size : Nat} {v : Value} {n : Nat} {xs : List Value} (h : W.ownsRow 0 e size v n xs) (hb : ∀ k, v.ownBlock = some k → W'.heap[k]? = W.heap[k]?) : W'.ownsRow 0 e size v n xs := by
  obtain ⟨hlen, hrow⟩ := h
  refine ⟨hlen, ?_⟩
  rcases hrow with h' | ⟨g, cap, cur, rfl, h0, hh, hr⟩
  · exact .inl h'
  · exact .inr ⟨g, cap, cur, rfl, h0, (hb g rfl).trans hh, hr⟩
theorem ownsRow_lt {W : World} {e : TypeId} {size : Nat} {v : Value} {n : Nat} {xs : List Value} (h : W.ownsRow 0 e size v n xs) {k : Nat} (hk : v.ownBlock = some k) : k < W.heap.size := by
  rcases h.2 with ⟨rfl, _⟩ | ⟨g, cap, cur, rfl, h0, hh, hr⟩
  · cases hk
  · cases hk
    exact (Array.getElem?_eq_some_iff.1 hh).1
theorem ownsRow_type {W : World} {e : TypeId} {size : Nat} {v : Value} {n : Nat} {xs : List Value} (h : W.ownsRow 0 e size v n xs) {k : Nat} (hk : v.ownBlock = some k) : ∃ cur, W.heap[k]? = some (.cells cur e (0, 0)) := by
  rcases h.2 with ⟨rfl, _⟩ | ⟨g, cap, cur, rfl, h0, hh, hr⟩
  · cases hk
  · cases hk
    exact ⟨cur, hh⟩
/-- An own row's cells. -/
theorem ownsRow_cell {W : World} {e : TypeId} {size : Nat} {v : Value} {n : Nat} {xs : List Value} (h : W.ownsRow 0 e size v n xs) {g cap : Nat} (hv : v = .slice (some ⟨g, 0, none⟩) n cap) {j : Nat} {u : Value} (hj : xs[j]? = some u) : W.cell? ⟨g, j, none⟩ = some u := by
  subst hv
  rcases h.2 with ⟨hv, _⟩ | ⟨g', cap', cur, hv, h0, hh, hnc, hcm, hcs, hct⟩
  · cases hv
  · cases hv
    rw [cl_of hh]
    rw [← hct, List.getElem?_take] at hj
    split at hj
    · simpa using hj
    · cases hj
theorem Fr.of_grownBy {w w' : World} {row : Option Nat} (h : w.grownBy w' row) : Fr (fun k => some k = row) w w' := ⟨h.os, h.tape, h.output, h.size, fun k hk hn => h.block k hk hn⟩
end Go.Proofs.Ythmabnigdnbdkaa
