/- Maps of integers to anything, ranged over with their values. -/
import Derived.Test.YtjjphcnoegaimaaMapS
namespace Go.Proofs.Ytjjphcnoegaimaa
open Go.RowKit Go.Maps
set_option linter.unusedVariables false

section
variable {P : Program} {W W' : World} {m : Nat} {q : IntKind} {L : List (Int × Value)} {k : TypeId}
/-- An element reads as itself. -/
def heldR : Value → Option (DataW Value × List MemPlace) := fun v => some (.held v, [])
/-- What may be ranged over, with the values. -/
theorem MapS.ownsV (h : MapS W m q L) (hk : P.underlying k = some (.int q)) (hL : L.length ≤ maxLen) :
    ∃ D, W.ownsMap P k heldR m L.length D ∧ (∀ x, has D (.int q x) = true ↔ x ∈ L.map Prod.fst) ∧ ∀ x v, (x, v) ∈ L → ∀ zd, D.atKey (.int q x) zd = .held v := by
  obtain ⟨es, clock, hb, hl, hn, hst, hw⟩ := h
  have hlen : es.size = L.length := by have := congrArg List.length hl; simpa using this
  have hks := keys_of q hl
  have hkey : ∀ x ∈ es.toList, ∃ a, x.key = .int q a ∧ (Lit.int q a).wf = true := by
    intro x hx
    have h1 : x.key ∈ es.toList.map (·.key) := List.mem_map.2 ⟨x, hx, rfl⟩
    rw [hks] at h1
    obtain ⟨p, hp, he⟩ := List.mem_map.1 h1
    exact ⟨p.1, he.symm, hw p hp⟩
  have hrd : ∀ x ∈ es.toList, ∀ a, x.key = .int q a → (Lit.int q a).wf = true → WideElems.rd P k heldR x = some (.int q a, .held x.val) := by
    intro x hx a ha hwa
    simp [WideElems.rd, ha, keyOf_int_mk hk hwa, heldR]
  have hfit : WideElems.Fit P k heldR es clock := ⟨by omega, hst, fun x hx => by
    obtain ⟨a, ha, hwa⟩ := hkey x hx
    exact ⟨_, hrd x hx a ha hwa⟩⟩
  refine ⟨_, ⟨es, clock, hb, hfit, by omega, rfl⟩, fun x => ?_, fun x v hx zd => ?_⟩
  · rw [has_eq, List.any_eq_true]
    constructor
    · rintro ⟨p, hp, hs⟩
      rw [mem_sorted] at hp
      obtain ⟨y, hy, rfl⟩ := List.mem_map.1 hp
      obtain ⟨a, ha, hwa⟩ := hkey y hy
      rw [WideElems.rg_of (hrd y hy a ha hwa)] at hs
      have hax : a = x := by simpa [Lit.sameKey] using hs
      have h1 : y.key ∈ es.toList.map (·.key) := List.mem_map.2 ⟨y, hy, rfl⟩
      rw [hks, ha, hax] at h1
      obtain ⟨p, hp, he⟩ := List.mem_map.1 h1
      simp only [Value.int.injEq, true_and] at he
      exact List.mem_map.2 ⟨p, hp, he⟩
    · intro hx
      obtain ⟨p, hp, he⟩ := List.mem_map.1 hx
      have h1 : Value.int q p.1 ∈ L.map (fun p => Value.int q p.1) := List.mem_map.2 ⟨p, hp, rfl⟩
      rw [← hks] at h1
      obtain ⟨y, hy, hy2⟩ := List.mem_map.1 h1
      refine ⟨WideElems.rg P k heldR y, mem_sorted.2 (List.mem_map.2 ⟨y, hy, rfl⟩), ?_⟩
      rw [WideElems.rg_of (hrd y hy p.1 hy2 (hw p hp))]
      simp [Lit.sameKey, he]
  · have h1 : (Value.int q x, v) ∈ L.map (fun p => (Value.int q p.1, p.2)) := List.mem_map.2 ⟨_, hx, rfl⟩
    rw [← hl] at h1
    obtain ⟨y, hy, hy2⟩ := List.mem_map.1 h1
    simp only [Prod.mk.injEq] at hy2
    have hwx := hw _ hx
    have hat := WideElems.rg_of (hrd y hy x hy2.1 hwx)
    have h3 := (WideShapes.atKey_sorted (es.toList.map (WideElems.rg P k heldR)) (fit_rising (int_keyed hk) hfit) (.int q x) ((int_keyed hk).key (keyOf_int_mk hk hwx))).2 (WideElems.rg P k heldR y) (List.mem_map.2 ⟨y, hy, rfl⟩) (by rw [hat]) zd
    rw [h3, hat, ← hy2.2]
end
end Go.Proofs.Ytjjphcnoegaimaa
