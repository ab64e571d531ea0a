/- Rows of texts in a drawn region: one is cloned ('append(nil, l..)'), one is appended to. -/
import Derived.Test.YtjjphcnoegaimaaSide03
import Derived.Test.YtjjphcnoegaimaaLinZ
namespace Go.Proofs.Ytjjphcnoegaimaa
open Go.RowKit Go.Shelf Go.Maps
set_option maxRecDepth 20000

theorem sv_one (l : List ByteArray) : ∀ u ∈ sv l, u.oneCell' = true := by
  intro u hu
  obtain ⟨b, _, rfl⟩ := List.mem_map.1 hu
  rfl
theorem append_nil_row {o : Oper} {a : Act} {W : World} {K : Act → World → Prop} {Q : Exit → Act → World → Prop} (s x : Operand) (ho : o.op = .call { callee := .builtin .append, args := #[s, x], argTypes := #[42, 42] })
    (l : List ByteArray) (g off c : Nat) (hs : a.eval s = .slice none 0 0) (hx : a.eval x = .slice (some ⟨g, off, none⟩) l.length c) (hl : l ≠ []) (hlen : l.length ≤ 100000)
    (hnews : ∀ j b, l[j]? = some b → W.cell? ⟨g, off + j, none⟩ = some (.string b))
    (h : ∀ g1 c1 w', w'.ownsRow W.heap.size 9 1 (.slice (some ⟨g1, 0, none⟩) l.length c1) l.length (sv l) → Below W.heap.size W w' → K (a.put o.dst (.slice (some ⟨g1, 0, none⟩) l.length c1)) w') : o.wp Try.prog a W K Q := by
  have hp : 0 < l.length := List.length_pos_iff.2 hl
  obtain ⟨i0, ii, hz0, hz1, hz2⟩ := infoStr
  refine wp_append_lies W s x 42 ho W.heap.size 9 i0 (.string ByteArray.empty) 1 16 Try.underlying42 ii hz0 hz1 hz2 (by rfl) (by decide) (.slice none 0 0) 0 [] hs (World.ownsRow_nil _ _ _ _) ⟨g, off, none⟩ l.length c (sv l) hx (by rw [sv_length, Nat.mul_one]) (fun j u hj => ?_) (sv_one l) hp (by unfold maxLen; omega) (by omega) (Nat.le_refl _) _ rfl (fun g1 c1 w' hown hgrow hlie hlt => ?_)
  · rw [Addr.add_lit]
    obtain ⟨b, hb, rfl⟩ : ∃ b, l[j]? = some b ∧ u = .string b := by
      simp only [sv, List.getElem?_map] at hj
      cases hb : l[j]? with
      | none => rw [hb] at hj; cases hj
      | some b => rw [hb] at hj; exact ⟨b, rfl, (Option.some.inj hj).symm⟩
    exact hnews j b hb
  · rw [Nat.zero_add, List.nil_append] at hown
    rw [Nat.zero_add]
    exact h g1 c1 w' hown ⟨hgrow.os, hgrow.tape, hgrow.output, hgrow.size, fun k hk => hgrow.block k hk (by simp [Value.ownBlock])⟩
theorem append_one_row {o : Oper} {a : Act} {W : World} {K : Act → World → Prop} {Q : Exit → Act → World → Prop} (s x : Operand) (ho : o.op = .call { callee := .builtin .append, args := #[s, x], argTypes := #[42, 42] })
    (l : List ByteArray) (b : ByteArray) (B g1 c1 g2 : Nat) (hs : a.eval s = .slice (some ⟨g1, 0, none⟩) l.length c1) (hx : a.eval x = .slice (some ⟨g2, 0, none⟩) 1 1) (hlen : l.length ≤ 100000)
    (hown : W.ownsRow B 9 1 (.slice (some ⟨g1, 0, none⟩) l.length c1) l.length (sv l)) (hB : B ≤ W.heap.size) (hb : W.cell? ⟨g2, 0, none⟩ = some (.string b))
    (h : ∀ g3 c3 w', w'.ownsRow B 9 1 (.slice (some ⟨g3, 0, none⟩) (l ++ [b]).length c3) (l ++ [b]).length (sv (l ++ [b])) → Below B W w' → K (a.put o.dst (.slice (some ⟨g3, 0, none⟩) (l.length + 1) c3)) w') : o.wp Try.prog a W K Q := by
  obtain ⟨i0, ii, hz0, hz1, hz2⟩ := infoStr
  have hg1 : B ≤ g1 := by
    rcases hown.2 with ⟨e, _⟩ | ⟨g, c, cur, e, h0, _⟩
    · cases e
    · cases e; exact h0
  refine wp_append_lies W s x 42 ho B 9 i0 (.string ByteArray.empty) 1 16 Try.underlying42 ii hz0 hz1 hz2 (by rfl) (by decide) _ l.length (sv l) hs hown ⟨g2, 0, none⟩ 1 1 [.string b] hx (by rfl) (fun j u hj => ?_) (sv_one [b]) (by decide) (by unfold maxLen; omega) (by omega) hB _ rfl (fun g3 c3 w' hown' hgrow hlie hlt => ?_)
  · rw [Addr.add_lit, Nat.zero_add]
    cases j with
    | zero =>
      simp at hj
      subst hj
      exact hb
    | succ j => simp at hj
  · have e1 : (l ++ [b]).length = l.length + 1 := by simp
    have e2 : sv (l ++ [b]) = sv l ++ [.string b] := by simp [sv]
    refine h g3 c3 w' (by rw [e1, e2]; exact hown') ⟨hgrow.os, hgrow.tape, hgrow.output, hgrow.size, fun k hk => hgrow.block k (by omega) (fun e => ?_)⟩
    simp [Value.ownBlock] at e
    omega
end Go.Proofs.Ytjjphcnoegaimaa
