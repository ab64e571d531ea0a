/- package dev: Copy. -/
import Derived.Test.YtjjphcnoegaimaaDevC
import Derived.Test.YtjjphcnoegaimaaMapV
import Derived.Test.YtjjphcnoegaimaaLin2
namespace Go.Proofs.Ytjjphcnoegaimaa
open Go.RowKit Go.Shelf Go.Maps
set_option linter.unusedSimpArgs false
set_option linter.unusedVariables false
set_option maxRecDepth 20000

section
variable {w W W' : World} {p hb hc m : Nat} {L : List (Int × Value)} {s : DS}
theorem row_below9 {B : Nat} {e : TypeId} {size : Nat} {u : Value} {k : Nat} {xs : List Value} (h : W.ownsRow B e size u k xs) (hB : Below W.heap.size W W') : W'.ownsRow B e size u k xs := by
  obtain ⟨hlen, hrow⟩ := h
  refine ⟨hlen, ?_⟩
  rcases hrow with h' | ⟨g, cap, cur, rfl, h0, hh, hr⟩
  · exact .inl h'
  · exact .inr ⟨g, cap, cur, rfl, h0, (hB.block g (blk_lt hh)).trans hh, hr⟩
/-- A device's state without cached writes. -/
def bare (s : DS) : DS := { s with rows := fun _ => [] }
/-- A copy's beginnings. -/
def NewC (w : World) (s : DS) (p' hb' hc' m' : Nat) (W' : World) : Prop := DevAt W' p' hb' hc' m' [] (bare s) ∧ Below w.heap.size w W' ∧ w.heap.size ≤ p' ∧ w.heap.size ≤ hb' ∧ w.heap.size ≤ m'
theorem new_copy {p' m' g2 c2 B : Nat} (hp : W.heap.size = p') (h : DevAt w p hb hc m L s) (hB : Below w.heap.size w W) (hBs : w.heap.size ≤ B) (hrow : W.ownsRow B 9 1 (.slice (some ⟨g2, 0, none⟩) s.hard.length c2) s.hard.length (sv s.hard)) (hm : MapS W m' .i64 []) (hml : w.heap.size ≤ m') :
    NewC w s p' g2 c2 m' (W.alloc (.cells #[.bool s.armed, .int .i64 s.left, .bool s.dead, .slice (some ⟨g2, 0, none⟩) s.hard.length c2, .map (some m'), .int .u64 s.writes] 98)) := by
  subst hp
  have hn := bnew W (.cells #[.bool s.armed, .int .i64 s.left, .bool s.dead, .slice (some ⟨g2, 0, none⟩) s.hard.length c2, .map (some m'), .int .u64 s.writes] 98)
  have hg : B ≤ g2 := by
    rcases hrow.2 with ⟨e, _⟩ | ⟨g', c', cur, e, h0, _⟩
    · cases e
    · cases e; exact h0
  refine ⟨⟨hp_new _ _ rfl, ownsRow_base (row_below9 hrow hn), hm.of_block (hn.block m' hm.lt), (fun x hx => by cases hx), (fun k _ => rfl), (fun x hx => by cases hx), (fun x hx => by cases hx), h.pos⟩, bal hB _, hB.size, Nat.le_trans hBs hg, hml⟩
/-- A region's ways joined: four numbers. -/
theorem region_mid4 {P : Program} {id : Nat} {ops : Array Oper} {b : Bool} {Q : Exit → Act → World → Prop} {a : Act} {w : World} (F : Nat → Nat → Nat → Nat → Act) (R : Nat → Nat → Nat → Nat → World → Prop)
    (h : (Code.region id ops b).wp P (NoPanic fun e a' w' => e = .normal ∧ ∃ n1 n2 n3 n4, a' = F n1 n2 n3 n4 ∧ R n1 n2 n3 n4 w') a w) (hc : ∀ n1 n2 n3 n4 w', R n1 n2 n3 n4 w' → Q .normal (F n1 n2 n3 n4) w') : (Code.region id ops b).wp P Q a w :=
  Code.wp_mono (fun e a' w' h => by
    cases e with
    | normal =>
      obtain ⟨-, n1, n2, n3, n4, rfl, hr⟩ := h
      exact hc n1 n2 n3 n4 w' hr
    | panic c => exact h.elim
    | ret => exact absurd h.1 (by simp)
    | exit id => exact absurd h.1 (by simp)
    | goto t => exact absurd h.1 (by simp)
    | outgrown => exact absurd h.1 (by simp)) h
/-- A drawn region is entered; the world behind the draw has a name. -/
theorem region_named {P : Program} {ops : Array Oper} {Q : Exit → Act → World → Prop} {S : World → Prop} {id : Nat} {a : Act} {w : World} (hm : P.follows .mixedOrders = true)
    (h : ∀ W2, Hid (W2 = w.drew) → S W2 ∧ (S W2 → wpAnyH P .any ops Q S ops.size (Array.replicate ops.size false) a W2)) : (Code.region id ops true).wp P Q a w :=
  wp_region_held_drew hm (h _ (Lib.hid rfl)).1 (h _ (Lib.hid rfl)).2
theorem cell_eqb {W W' : World} {k o : Nat} (h : W'.heap[k]? = W.heap[k]?) : W'.cell? ⟨k, o, none⟩ = W.cell? ⟨k, o, none⟩ := by
  simp only [World.cell?, h]
/-- A row of texts is cloned. -/
theorem clone_row {g c : Nat} {l : List ByteArray} (hl : l ≠ []) (hl2 : l.length ≤ 100000) (h : W.ownsRow 0 9 1 (.slice (some ⟨g, 0, none⟩) l.length c) l.length (sv l)) :
    Calls Try.prog 66 #[.slice (some ⟨g, 0, none⟩) l.length c] W fun e w' => ∃ g2 c2, e = .returned (.slice (some ⟨g2, 0, none⟩) l.length c2) ∧ w'.ownsRow W.heap.size 9 1 (.slice (some ⟨g2, 0, none⟩) l.length c2) l.length (sv l) ∧ Below W.heap.size W w' := by
  have hp : 0 < l.length := List.length_pos_iff.2 hl
  refine (Try.slices_Clone_string g 0 l.length c l W (Nat.le_refl _) (by omega) (fun j hj => by rw [Nat.zero_add]; exact ownsRow_cell h rfl (by simp [sv, List.getD_eq_getElem?_getD, hj]))).mono ?_
  rintro e w' ⟨v', rfl, hown, hne, hB⟩
  obtain ⟨g2, c2, rfl, -⟩ := hown.form hp
  rw [List.take_length] at hown
  exact ⟨g2, c2, rfl, hown, hB⟩

/-- Which entries came. -/
def vis (D : DataW Value) (left : Lit → Bool) (k : Int) : Bool := has D (.int .i64 k) && !left (.int .i64 k)
def partS (s : DS) (D : DataW Value) (left : Lit → Bool) : DS := { s with rows := fun k => if vis D left k then s.rows k else [] }
theorem mput_in {k : Int} {v : Value} {l : List (Int × Value)} : ∀ x ∈ mput k v l, x = (k, v) ∨ x ∈ l := by
  induction l with
  | nil => intro x hx; simp [mput] at hx; exact .inl hx
  | cons a l ih =>
    intro x hx
    unfold mput at hx
    split at hx
    · rename_i hka
      subst hka
      rcases List.mem_cons.1 hx with h | h
      · exact .inl h
      · exact .inr (List.mem_cons_of_mem _ h)
    · rcases List.mem_cons.1 hx with h | h
      · exact .inr (by rw [h]; exact List.mem_cons_self ..)
      · exact (ih x h).imp id (List.mem_cons_of_mem _)
def isIt : Obj → Bool
  | .mapIter _ _ _ _ => true
  | _ => false
/-- A device's blocks are no iterator's. -/
theorem foot_walk (h : DevAt W p hb hc m L s) {k : Nat} (hk : dfoot p hb m L k) {o : Obj} (ho : W.heap[k]? = some o) : isIt o = false := by
  rcases hk with rfl | rfl | rfl | ⟨x, hx, e⟩
  · rw [h.obj] at ho; cases ho; rfl
  · obtain ⟨cur, hb⟩ := ownsRow_type h.hard rfl
    rw [hb] at ho; cases ho; rfl
  · obtain ⟨es, c, hb, _⟩ := h.map
    rw [hb] at ho; cases ho; rfl
  · obtain ⟨g, c, e1, h1, _⟩ := h.rows x hx
    rw [e1] at e
    obtain ⟨cur, hb⟩ := ownsRow_type h1 e
    rw [hb] at ho; cases ho; rfl
/-- A copy under way. -/
structure CpI (w : World) (s : DS) (p' hb' hc' m' : Nat) (D : DataW Value) (left : Lit → Bool) (W' : World) : Prop where
  dev : ∃ L', DevAt W' p' hb' hc' m' L' (partS s D left) ∧ ∀ k, dfoot p' hb' m' L' k → w.heap.size ≤ k
  below : Below w.heap.size w W'
  ml : w.heap.size ≤ m'
theorem CpI.of {p' hb' hc' m' : Nat} {D : DataW Value} {left : Lit → Bool} (h : CpI w s p' hb' hc' m' D left W) (hB : Below W.heap.size W W') : CpI w s p' hb' hc' m' D left W' := by
  obtain ⟨L', a, b⟩ := h.dev
  exact ⟨⟨L', a.below hB, b⟩, bt h.below hB, h.ml⟩
/-- The iterator goes on. -/
theorem CpI.iter {p' hb' hc' m' r : Nat} {D : DataW Value} {left : Lit → Bool} (h : CpI w s p' hb' hc' m' D left W) (hg : W.grownBy W' (some r)) (hr : w.heap.size ≤ r) {o : Obj} (ho : W.heap[r]? = some o) (hw : isIt o = true) : CpI w s p' hb' hc' m' D left W' := by
  obtain ⟨L', a, b⟩ := h.dev
  refine ⟨⟨L', a.keep (fun k hk => hg.block k (a.lt hk) (fun e => ?_)), b⟩, h.below.grown hg h.below.size (fun k e => by cases e; exact hr), h.ml⟩
  cases e
  have := foot_walk a hk ho
  rw [hw] at this
  cases this
/-- A row is laid. -/
theorem CpI.add {W3 W4 : World} {p' hb' hc' m' : Nat} {D : DataW Value} {left : Lit → Bool} {i : Nat} {g2 c2 : Nat} {L' : List (Int × Value)} (h : CpI w s p' hb' hc' m' D left W) (a : DevAt W p' hb' hc' m' L' (partS s D left)) (b : ∀ k, dfoot p' hb' m' L' k → w.heap.size ≤ k) (hi : i < s.hard.length) (hl : s.rows i ≠ []) (hhas : has D (.int .i64 i) = true)
    (hB3 : Below W.heap.size W W3) (hown : W3.ownsRow W.heap.size 9 1 (.slice (some ⟨g2, 0, none⟩) (s.rows i).length c2) (s.rows i).length (sv (s.rows i)))
    (hput : MapS W4 m' .i64 (mput i (.agg #[.slice (some ⟨g2, 0, none⟩) (s.rows i).length c2]) L')) (hg : W3.grownBy W4 (some m')) :
    CpI w s p' hb' hc' m' D (fun z => left z && !z.sameKey (.int .i64 i)) W4 := by
  have hg2 : W.heap.size ≤ g2 := by
    rcases hown.2 with ⟨e, _⟩ | ⟨g', c', cur, e, h0, _⟩
    · cases e
    · cases e; exact h0
  have hg2l : g2 < W3.heap.size := ownsRow_lt (ownsRow_base hown) rfl
  have hgm : g2 ≠ m' := by
    have := a.lt (.inr (.inr (.inl rfl)))
    omega
  have hown4 : W4.ownsRow 0 9 1 (.slice (some ⟨g2, 0, none⟩) (s.rows i).length c2) (s.rows i).length (sv (s.rows i)) := ownsRow_of_block (ownsRow_base hown) (fun k e => by cases e; exact hg.block g2 hg2l (by simpa using hgm))
  have hadd := a.add (i := i) hi (l := s.rows i) hl hown4 hput (.inr hg2) (by have := a.lt (.inr (.inl rfl)); omega) (fun k hk hkm hkg _ => (hg.block k (Nat.lt_of_lt_of_le hk hB3.size) (by simpa using hkm)).trans (hB3.block k hk))
  have hrows : setR (fun k => if vis D left k then s.rows k else []) i (s.rows i) = fun k => if vis D (fun z => left z && !z.sameKey (.int .i64 i)) k then s.rows k else [] := by
    funext k
    by_cases hk : k = (i : Int)
    · subst hk
      rw [setR_same, if_pos (by simp [vis, hhas, Lit.sameKey])]
    · rw [setR_other _ _ hk]
      have hv : vis D (fun z => left z && !z.sameKey (.int .i64 i)) k = vis D left k := by
        have : (Lit.int IntKind.i64 k).sameKey (.int .i64 i) = false := by simp [Lit.sameKey, hk]
        simp [vis, this]
      rw [hv]
  have e : ({ partS s D left with rows := setR (partS s D left).rows i (s.rows i) } : DS) = partS s D (fun z => left z && !z.sameKey (.int .i64 i)) := by
    show ({ s with rows := setR (fun k => if vis D left k then s.rows k else []) i (s.rows i) } : DS) = { s with rows := fun k => if vis D (fun z => left z && !z.sameKey (.int .i64 i)) k then s.rows k else [] }
    rw [hrows]
  rw [e] at hadd
  refine ⟨⟨_, hadd, fun k hk => ?_⟩, (bt h.below hB3).grown hg (bt h.below hB3).size (fun k e => by cases e; exact h.ml), h.ml⟩
  rcases hk with rfl | rfl | rfl | ⟨x, hx, e2⟩
  · exact b _ (.inl rfl)
  · exact b _ (.inr (.inl rfl))
  · exact b _ (.inr (.inr (.inl rfl)))
  · rcases mput_in x hx with rfl | hx
    · cases e2
      exact Nat.le_trans h.below.size hg2
    · exact b _ (.inr (.inr (.inr ⟨x, hx, e2⟩)))

set_option maxHeartbeats 4000000 in
theorem dev_copy (h : DevAt w p hb hc m L s) (hrw : ∀ j, (s.rows j).length ≤ 100000) (hlm : L.length ≤ maxLen) : Calls Try.prog 26 #[.pointer (some ⟨p, 0, none⟩)] w fun e w' => ∃ p' hb' hc' m' L', e = .returned (.pointer (some ⟨p', 0, none⟩)) ∧ DevAt w' p' hb' hc' m' L' s ∧ Below w.heap.size w w' ∧ (∀ k, dfoot p' hb' m' L' k → w.heap.size ≤ k) := by
  have hob := h.obj
  have hSb : ∀ W' : World, Below w.heap.size w W' → (W'.cell? ⟨p, 0, none⟩ = some (.bool s.armed) ∧ W'.cell? ⟨p, 1, none⟩ = some (.int .i64 s.left) ∧ W'.cell? ⟨p, 2, none⟩ = some (.bool s.dead) ∧ W'.cell? ⟨p, 3, none⟩ = some (.slice (some ⟨hb, 0, none⟩) s.hard.length hc) ∧ W'.cell? ⟨p, 5, none⟩ = some (.int .u64 s.writes)) := fun W' hB => by
    have hb := bblk hB hob
    exact ⟨cl_of hb 0, cl_of hb 1, cl_of hb 2, cl_of hb 3, cl_of hb 5⟩
  have hne : s.hard ≠ [] := fun e => by have := h.pos.1; rw [e] at this; exact absurd this (by decide)
  have hcl := fun (W2 : World) (hB : Below w.heap.size w W2) => clone_row hne (by have := h.pos.2; omega) (row_below9 h.hard hB)
  have HCL := Lib.hid hcl
  have HH := Lib.hid h
  have HRW := Lib.hid hrw
  have HL := Lib.hid hlm
  have hmm := @run_makeMap Try.prog
  clear h hrw hcl hne hlm
  go_enter Try.func26, Try.ntmps26
  go_wp2_with fail
  apply region_mid4 (R := fun n1 n2 n3 n4 W' => NewC w s n1 n2 n3 n4 W')
  case h =>
    refine wp_region_held_drew (S := (fun W' => W'.cell? ⟨p, 0, none⟩ = some (.bool s.armed) ∧ W'.cell? ⟨p, 1, none⟩ = some (.int .i64 s.left) ∧ W'.cell? ⟨p, 2, none⟩ = some (.bool s.dead) ∧ W'.cell? ⟨p, 3, none⟩ = some (.slice (some ⟨hb, 0, none⟩) s.hard.length hc) ∧ W'.cell? ⟨p, 5, none⟩ = some (.int .u64 s.writes))) (by kernel_rfl) (by exact hSb _ (Below.refl _ w).drew) (fun hHeld => ?_)
    refine wpAnyH_now (i := 0) (v := ?v300) rfl (by kernel_rfl) (by kernel_rfl) (by kernel_rfl) (fun _ _ _ h => h) (by rfl) ?h300 (by assumption) ?_
    case h300 => ((intro w hSw; (try dsimp only at hSw); go_simp); try with_reducible rfl)
    (try simp only [Act.put, List.setIfInBounds_toArray, List.set_cons_succ, List.set_cons_zero])
    refine wpAnyH_now (i := 1) (v := ?v301) rfl (by kernel_rfl) (by kernel_rfl) (by kernel_rfl) (fun _ _ _ h => h) (by rfl) ?h301 (by assumption) ?_
    case h301 => ((intro w hSw; (try dsimp only at hSw); go_simp); try with_reducible rfl)
    (try simp only [Act.put, List.setIfInBounds_toArray, List.set_cons_succ, List.set_cons_zero])
    refine wpAnyH_now (i := 2) (v := ?v302) rfl (by kernel_rfl) (by kernel_rfl) (by kernel_rfl) (fun _ _ _ h => h) (by rfl) ?h302 (by assumption) ?_
    case h302 => ((intro w hSw; (try dsimp only at hSw); go_simp); try with_reducible rfl)
    (try simp only [Act.put, List.setIfInBounds_toArray, List.set_cons_succ, List.set_cons_zero])
    refine wpAnyH_now (i := 3) (v := ?v303) rfl (by kernel_rfl) (by kernel_rfl) (by kernel_rfl) (fun _ _ _ h => h) (by rfl) ?h303 (by assumption) ?_
    case h303 => ((intro w hSw; (try dsimp only at hSw); go_simp); try with_reducible rfl)
    (try simp only [Act.put, List.setIfInBounds_toArray, List.set_cons_succ, List.set_cons_zero])
    refine wpAnyH_now (i := 4) (v := ?v304) rfl (by kernel_rfl) (by kernel_rfl) (by kernel_rfl) (fun _ _ _ h => h) (by rfl) ?h304 (by assumption) ?_
    case h304 => ((intro w hSw; (try dsimp only at hSw); go_simp); try with_reducible rfl)
    (try simp only [Act.put, List.setIfInBounds_toArray, List.set_cons_succ, List.set_cons_zero])
    refine wpAnyH_now (i := 5) (v := ?v305) rfl (by kernel_rfl) (by kernel_rfl) (by kernel_rfl) (fun _ _ _ h => h) (by rfl) ?h305 (by assumption) ?_
    case h305 => ((intro w hSw; (try dsimp only at hSw); go_simp); try with_reducible rfl)
    (try simp only [Act.put, List.setIfInBounds_toArray, List.set_cons_succ, List.set_cons_zero])
    refine wpAnyH_now (i := 6) (v := ?v306) rfl (by kernel_rfl) (by kernel_rfl) (by kernel_rfl) (fun _ _ _ h => h) (by rfl) ?h306 (by assumption) ?_
    case h306 => ((intro w hSw; (try dsimp only at hSw); go_simp); try with_reducible rfl)
    (try simp only [Act.put, List.setIfInBounds_toArray, List.set_cons_succ, List.set_cons_zero])
    refine wpAnyH_now (i := 7) (v := ?v307) rfl (by kernel_rfl) (by kernel_rfl) (by kernel_rfl) (fun _ _ _ h => h) (by rfl) ?h307 (by assumption) ?_
    case h307 => ((intro w hSw; (try dsimp only at hSw); go_simp); try with_reducible rfl)
    (try simp only [Act.put, List.setIfInBounds_toArray, List.set_cons_succ, List.set_cons_zero])
    refine wpAnyH_now (i := 10) (v := ?v308) rfl (by kernel_rfl) (by kernel_rfl) (by kernel_rfl) (fun _ _ _ h => h) (by rfl) ?h308 (by assumption) ?_
    case h308 => ((intro w hSw; (try dsimp only at hSw); go_simp); try with_reducible rfl)
    (try simp only [Act.put, List.setIfInBounds_toArray, List.set_cons_succ, List.set_cons_zero])
    refine wpAnyH_now (i := 11) (v := ?v309) rfl (by kernel_rfl) (by kernel_rfl) (by kernel_rfl) (fun _ _ _ h => h) (by rfl) ?h309 (by assumption) ?_
    case h309 => ((intro w hSw; (try dsimp only at hSw); go_simp); try with_reducible rfl)
    (try simp only [Act.put, List.setIfInBounds_toArray, List.set_cons_succ, List.set_cons_zero])
    refine wpAnyH_now (i := 12) (v := ?v310) rfl (by kernel_rfl) (by kernel_rfl) (by kernel_rfl) (fun _ _ _ h => h) (by rfl) ?h310 (by assumption) ?_
    case h310 => ((intro w hSw; (try dsimp only at hSw); go_simp); try with_reducible rfl)
    (try simp only [Act.put, List.setIfInBounds_toArray, List.set_cons_succ, List.set_cons_zero])
    refine wpAnyH_now (i := 13) (v := ?v311) rfl (by kernel_rfl) (by kernel_rfl) (by kernel_rfl) (fun _ _ _ h => h) (by rfl) ?h311 (by assumption) ?_
    case h311 => ((intro w hSw; (try dsimp only at hSw); go_simp); try with_reducible rfl)
    (try simp only [Act.put, List.setIfInBounds_toArray, List.set_cons_succ, List.set_cons_zero])
    refine wpAnyH_two (i := 8) (j := 9) (by kernel_rfl) rfl rfl (by rfl) (by rfl) (fun K hK => ?_) (fun K hK => ?_)
    · go_simp
      refine (HCL.out _ (by first | exact (Below.refl _ w).drew | exact (bnew w (.map #[] 0)).drew)).mono ?_
      rintro e w3 ⟨g2, c2, rfl, hown, hB3⟩
      refine hK.out _ _ (by exact hSb _ (bt (Below.refl _ w).drew hB3)) (fun hHeld => ?_)
      clear hK K
      (try simp only [Act.put, List.setIfInBounds_toArray, List.set_cons_succ, List.set_cons_zero])
      refine wpAnyH_only (i := 9) (by kernel_rfl) rfl (by rfl) (fun K hK => ?_)
      go_simp
      refine hK.out _ _ (by exact hSb _ (bal (bt (Below.refl _ w).drew hB3) _)) (fun hHeld => ?_)
      clear hK K
      (try simp only [Act.put, List.setIfInBounds_toArray, List.set_cons_succ, List.set_cons_zero])
      refine wpAnyH_now (i := 14) (v := ?v312) rfl (by kernel_rfl) (by kernel_rfl) (by kernel_rfl) (fun _ _ _ h => h) (by rfl) ?h312 (by assumption) ?_
      case h312 => ((intro w hSw; (try dsimp only at hSw); go_simp); try with_reducible rfl)
      (try simp only [Act.put, List.setIfInBounds_toArray, List.set_cons_succ, List.set_cons_zero])
      refine wpAnyH_only (i := 15) (by kernel_rfl) rfl (by rfl) (fun K hK => ?_)
      go_simp
      refine hK.out _ _ (by exact hSb _ (bal (bal (bt (Below.refl _ w).drew hB3) _) _)) (fun hHeld => ?_)
      clear hK K
      (try simp only [Act.put, List.setIfInBounds_toArray, List.set_cons_succ, List.set_cons_zero])
      refine wpAnyH_now (i := 16) (v := ?v313) rfl (by kernel_rfl) (by kernel_rfl) (by kernel_rfl) (fun _ _ _ h => h) (by rfl) ?h313 (by assumption) ?_
      case h313 => ((intro w hSw; (try dsimp only at hSw); go_simp); try with_reducible rfl)
      (try simp only [Act.put, List.setIfInBounds_toArray, List.set_cons_succ, List.set_cons_zero])
      refine wpAnyH_done (by kernel_rfl) ?_ _
      refine NoPanic.normal ?_
      obtain ⟨pv, hpv⟩ : ∃ k, w3.heap.size + 1 = k := ⟨_, rfl⟩
      obtain ⟨mv, hmv⟩ : ∃ k, w3.heap.size = k := ⟨_, rfl⟩
      try rw [hpv]
      rw [hmv]
      exact ⟨rfl, pv, g2, c2, mv, rfl, by (subst hmv; exact new_copy (W := w3.alloc (.map #[] 0)) (m' := w3.heap.size) (B := w.heap.size) (by rw [← hpv]; simp) HH.out (bal (bt (Below.refl _ w).drew hB3) _) (Nat.le_refl _) (row_below9 hown (bnew _ _)) (MapS.new w3 .i64) hB3.size)⟩
    · go_simp
      refine hK.out _ _ (by exact hSb _ ((bnew w (.map #[] 0)).drew)) (fun hHeld => ?_)
      clear hK K
      (try simp only [Act.put, List.setIfInBounds_toArray, List.set_cons_succ, List.set_cons_zero])
      refine wpAnyH_only (i := 8) (by kernel_rfl) rfl (by rfl) (fun K hK => ?_)
      go_simp
      refine (HCL.out _ (by first | exact (Below.refl _ w).drew | exact (bnew w (.map #[] 0)).drew)).mono ?_
      rintro e w3 ⟨g2, c2, rfl, hown, hB3⟩
      refine hK.out _ _ (by exact hSb _ (bt (bnew w (.map #[] 0)).drew hB3)) (fun hHeld => ?_)
      clear hK K
      (try simp only [Act.put, List.setIfInBounds_toArray, List.set_cons_succ, List.set_cons_zero])
      refine wpAnyH_now (i := 14) (v := ?v314) rfl (by kernel_rfl) (by kernel_rfl) (by kernel_rfl) (fun _ _ _ h => h) (by rfl) ?h314 (by assumption) ?_
      case h314 => ((intro w hSw; (try dsimp only at hSw); go_simp); try with_reducible rfl)
      (try simp only [Act.put, List.setIfInBounds_toArray, List.set_cons_succ, List.set_cons_zero])
      refine wpAnyH_only (i := 15) (by kernel_rfl) rfl (by rfl) (fun K hK => ?_)
      go_simp
      refine hK.out _ _ (by exact hSb _ (bal (bt (bnew w (.map #[] 0)).drew hB3) _)) (fun hHeld => ?_)
      clear hK K
      (try simp only [Act.put, List.setIfInBounds_toArray, List.set_cons_succ, List.set_cons_zero])
      refine wpAnyH_now (i := 16) (v := ?v315) rfl (by kernel_rfl) (by kernel_rfl) (by kernel_rfl) (fun _ _ _ h => h) (by rfl) ?h315 (by assumption) ?_
      case h315 => ((intro w hSw; (try dsimp only at hSw); go_simp); try with_reducible rfl)
      (try simp only [Act.put, List.setIfInBounds_toArray, List.set_cons_succ, List.set_cons_zero])
      refine wpAnyH_done (by kernel_rfl) ?_ _
      refine NoPanic.normal ?_
      obtain ⟨pv, hpv⟩ : ∃ k, w3.heap.size = k := ⟨_, rfl⟩
      obtain ⟨mv, hmv⟩ : ∃ k, w.heap.size = k := ⟨_, rfl⟩
      rw [hpv, hmv]
      exact ⟨rfl, pv, g2, c2, mv, rfl, by (subst hmv; exact new_copy (W := w3) (m' := w.heap.size) (B := (w.alloc (.map #[] 0)).heap.size) hpv HH.out (bt (bnew w (.map #[] 0)).drew hB3) (by simp) hown ((MapS.new w .i64).of_block (hB3.block w.heap.size (by simp [World.drew]))) (Nat.le_refl _))⟩
  case hc =>
    rintro p' hb' hc' m' w4 ⟨hd', hB4, hpl, hbl, hml⟩
    obtain ⟨D, hownm, hD, hDv⟩ := (HH.out.map.of_block (hB4.block m HH.out.map.lt)).ownsV Try.underlying3 HL.out
    have hlen := HH.out.map
    have c4 : w4.cell? ⟨p, 4, none⟩ = some (.map (some m)) := cl_of (bblk hB4 HH.out.obj) 4
    have hC0 : CpI w s p' hb' hc' m' D (has D) w4 := ⟨⟨[], by
      have hrows : (fun k => if vis D (has D) k then s.rows k else []) = fun _ => ([] : List ByteArray) := by
        funext k
        rw [if_neg (by simp [vis])]
      have e : partS s D (has D) = bare s := by
        show ({ s with rows := fun k => if vis D (has D) k then s.rows k else [] } : DS) = { s with rows := fun _ => [] }
        rw [hrows]
      rw [e]; exact hd', fun k hk => by
      rcases hk with rfl | rfl | rfl | ⟨x, hx, _⟩
      · exact hpl
      · exact hbl
      · exact hml
      · cases hx⟩, hB4, hml⟩
    have HC0 := Lib.hid hC0
    have HD := Lib.hid hD
    have HDV := Lib.hid hDv
    clear hd' hlen hC0 hD hDv
    go_wp2_with (first | (at_range; refine wpList_range_own _ rfl _ 94 rfl 3 103 (int_keyed Try.underlying3) Try.underlying94 heldR m L.length D rfl hownm ?_; intro w5 hrg0 hg0 hs0) | go_in)
    go_frame
    have hC5 := HC0.out.of ((Below.refl w4.heap.size w4).grown hg0 (Nat.le_refl _) (fun j hj => by cases hj))
    have HC5 := Lib.hid hC5
    have hr4 : w.heap.size ≤ w4.heap.size := hB4.size
    have HB4 := Lib.hid hB4
    obtain ⟨r, hrr⟩ : ∃ r, w4.heap.size = r := ⟨_, rfl⟩
    rw [hrr] at hrg0 hr4
    simp only [hrr]
    clear hC5 hg0 hs0 hownm hB4 hrr HC0 c4
    go_loopw [4, 5] (fun _ _ wr => ∃ left cnt, wr.ranges Try.prog 3 heldR m r L.length D left cnt ∧ CpI w s p' hb' hc' m' D left wr) (fun _ _ wr => wr.rangeLeft m r)
    case atStart => exact ⟨_, _, hrg0, HC5.out⟩
    case round =>
      obtain ⟨left, cnt, hrg, hI⟩ := hrel
      obtain ⟨it, hit, hitw⟩ : ∃ it, wr.heap[r]? = some it ∧ isIt it = true := by
        obtain ⟨es, clock, since, seen, c0, hb, _, _, _, hr, _⟩ := hrg
        exact ⟨_, hr, rfl⟩
      have HIT := Lib.hid (And.intro hit hitw)
      clear hit hitw
      go_wp2_with (first | (at_next; refine wpList_next_ranges _ rfl _ rfl 3 (int_keyed Try.underlying3) heldR (Value.int .i64) id (fun key kl hk => by obtain ⟨x, hx, _⟩ := keyOf_q Try.underlying3 hk; exact ⟨x, hx⟩) (fun v _ _ => ⟨v, rfl⟩) m r L.length _ _ _ rfl hrg ?_ ?_) | go_in)
      · intro hc0 hl0
        obtain ⟨L', a, b⟩ := hI.dev
        have hrows : (fun k => if vis D left k then s.rows k else []) = s.rows := by
          funext k
          have hv : vis D left k = has D (.int .i64 k) := by simp [vis, hl0]
          rw [hv]
          by_cases hh : has D (.int .i64 k) = true
          · rw [if_pos hh]
          · rw [if_neg hh]
            exact (HH.out.norow k (fun hk => hh ((HD.out k).2 hk))).symm
        have e : partS s D left = s := by
          show ({ s with rows := fun k => if vis D left k then s.rows k else [] } : DS) = s
          rw [hrows]
        rw [e] at a
        have HF := Lib.hid (And.intro a (And.intro hI.below b))
        clear a b hI hrows e hrg
        go_wp2
        go_ret
        exact ⟨_, _, _, _, _, rfl, HF.out.1, HF.out.2.1, HF.out.2.2⟩
      · intro x c kl yd yp w2 cnt2 hkey hlk hv hat hrg2 hlt hg2 hs2 hen
        obtain ⟨x', ex, rfl, hwx⟩ := keyOf_q Try.underlying3 hkey
        obtain rfl : x = x' := by simpa using ex
        have hhas := has_true_of_atKey hat
        obtain ⟨pv, hpv, hpx⟩ := List.mem_map.1 ((HD.out x).1 hhas)
        obtain ⟨x1, v1⟩ := pv
        obtain rfl : x1 = x := hpx
        obtain rfl : c = v1 := by
          have h1 := hat .nil
          rw [HDV.out x1 v1 hpv .nil] at h1
          have h2 : yd = DataW.held c := by
            have h3 : heldR c = some (yd, yp) := hv
            simp only [heldR, Option.some.injEq, Prod.mk.injEq] at h3
            exact h3.1.symm
          rw [h2] at h1
          simpa using h1.symm
        obtain ⟨g, c1, e1, hrow, hne, -⟩ := HH.out.rows _ hpv
        obtain ⟨hx0, hx1⟩ := HH.out.range _ hpv
        dsimp only at e1 hrow hne hx0 hx1
        subst e1
        obtain ⟨i, rfl⟩ := Int.eq_ofNat_of_zero_le hx0
        have hi : i < s.hard.length := by omega
        have hI2 := hI.iter hg2 hr4 HIT.out.1 HIT.out.2
        have HI2 := Lib.hid hI2
        have HX := Lib.hid (And.intro hi (And.intro hne hhas))
        have HROW := Lib.hid hrow
        have HWX := Lib.hid hwx
        clear hI hI2 hkey ex hpv hrow hne hx0 hx1 hi hhas hat hv hlk
        go_wp2_with fail
        apply region_mid4 (R := fun _ _ _ _ W' => W'.ranges Try.prog 3 heldR m r L.length D (fun z => left z && !z.sameKey (.int .i64 (i : Int))) cnt2 ∧ CpI w s p' hb' hc' m' D (fun z => left z && !z.sameKey (.int .i64 (i : Int))) W')
        case h =>
          refine region_named (S := (fun W' => W'.cell? ⟨p', 4, none⟩ = some (.map (some m')) ∧ W'.cell? ⟨wr.heap.size, 0, none⟩ = some (.slice (some ⟨g, 0, none⟩) (s.rows (i : Int)).length c1))) (by kernel_rfl) (fun W2 HW2 => ?_)
          have hB2 : Below w2.heap.size w2 W2 := by rw [HW2.out]; exact (bnew _ _).drew
          have hI3 := HI2.out.of hB2
          obtain ⟨L', a, b⟩ := hI3.dev
          have hcm : W2.cell? ⟨p', 4, none⟩ = some (.map (some m')) := cl_of a.obj 4
          have hcb : W2.cell? ⟨w2.heap.size, 0, none⟩ = some (.slice (some ⟨g, 0, none⟩) (s.rows (i : Int)).length c1) := by rw [HW2.out]; exact cl_of (hp_new w2 _ rfl) 0
          have hcl := clone_row HX.out.2.1 (HRW.out _) (row_below9 HROW.out hI3.below)
          have HCN := Lib.hid hcl
          have hrW : W2.ranges Try.prog 3 heldR m r L.length D (fun z => left z && !z.sameKey (.int .i64 (i : Int))) cnt2 := hrg2.kept (⟨hB2.os, hB2.tape, hB2.output, hB2.size, fun k hk _ => hB2.block k hk⟩ : World.grownBy w2 W2 none) (by simp) (by simp)
          have HRW2 := Lib.hid hrW
          have hmw : m' < w2.heap.size := by
            obtain ⟨L2, a2, -⟩ := HI2.out.dev
            exact a2.map.lt
          have hlb : w2.heap.size < W2.heap.size := by rw [HW2.out]; simp [World.drew]
          rw [hs2] at hcb hmw hlb
          have HI3 := Lib.hid hI3
          have HAB := Lib.hid (And.intro a b)
          have HSS := Lib.hid (And.intro hmw hlb)
          refine ⟨⟨hcm, hcb⟩, fun hHeld => ?_⟩
          clear hB2 hI3 a b hcl hrW hmw hlb hcm hcb
          refine wpAnyH_now (i := 0) (v := ?v316) rfl (by kernel_rfl) (by kernel_rfl) (by kernel_rfl) (fun _ _ _ h => h) (by rfl) ?h316 (by assumption) ?_
          case h316 => ((intro w hSw; (try dsimp only at hSw); go_simp); try with_reducible rfl)
          (try simp only [Act.put, List.setIfInBounds_toArray, List.set_cons_succ, List.set_cons_zero])
          refine wpAnyH_now (i := 1) (v := ?v317) rfl (by kernel_rfl) (by kernel_rfl) (by kernel_rfl) (fun _ _ _ h => h) (by rfl) ?h317 (by assumption) ?_
          case h317 => ((intro w hSw; (try dsimp only at hSw); go_simp); try with_reducible rfl)
          (try simp only [Act.put, List.setIfInBounds_toArray, List.set_cons_succ, List.set_cons_zero])
          refine wpAnyH_now (i := 2) (v := ?v318) rfl (by kernel_rfl) (by kernel_rfl) (by kernel_rfl) (fun _ _ _ h => h) (by rfl) ?h318 (by assumption) ?_
          case h318 => ((intro w hSw; (try dsimp only at hSw); go_simp); try with_reducible rfl)
          (try simp only [Act.put, List.setIfInBounds_toArray, List.set_cons_succ, List.set_cons_zero])
          refine wpAnyH_now (i := 3) (v := ?v319) rfl (by kernel_rfl) (by kernel_rfl) (by kernel_rfl) (fun _ _ _ h => h) (by rfl) ?h319 (by assumption) ?_
          case h319 => ((intro w hSw; (try dsimp only at hSw); go_simp); try with_reducible rfl)
          (try simp only [Act.put, List.setIfInBounds_toArray, List.set_cons_succ, List.set_cons_zero])
          refine wpAnyH_now (i := 4) (v := ?v320) rfl (by kernel_rfl) (by kernel_rfl) (by kernel_rfl) (fun _ _ _ h => h) (by rfl) ?h320 (by assumption) ?_
          case h320 => ((intro w hSw; (try dsimp only at hSw); go_simp); try with_reducible rfl)
          (try simp only [Act.put, List.setIfInBounds_toArray, List.set_cons_succ, List.set_cons_zero])
          refine wpAnyH_now (i := 5) (v := ?v321) rfl (by kernel_rfl) (by kernel_rfl) (by kernel_rfl) (fun _ _ _ h => h) (by rfl) ?h321 (by assumption) ?_
          case h321 => ((intro w hSw; (try dsimp only at hSw); go_simp); try with_reducible rfl)
          (try simp only [Act.put, List.setIfInBounds_toArray, List.set_cons_succ, List.set_cons_zero])
          refine wpAnyH_now (i := 6) (v := ?v322) rfl (by kernel_rfl) (by kernel_rfl) (by kernel_rfl) (fun _ _ _ h => h) (by rfl) ?h322 (by assumption) ?_
          case h322 => ((intro w hSw; (try dsimp only at hSw); go_simp); try with_reducible rfl)
          (try simp only [Act.put, List.setIfInBounds_toArray, List.set_cons_succ, List.set_cons_zero])
          refine wpAnyH_only (i := 7) (by kernel_rfl) rfl (by rfl) (fun K hK => ?_)
          go_simp
          refine HCN.out.mono ?_
          rintro e w3 ⟨g2, c2, rfl, hown, hB3⟩
          have hm3 := HAB.out.1.map.of_block (hB3.block m' HAB.out.1.map.lt)
          obtain ⟨w6, hr6, hm6, hg6⟩ := hm3.put (t := 94) Try.underlying94 Try.underlying3 (i : Int) HWX.out (.agg #[.slice (some ⟨g2, 0, none⟩) (s.rows (i : Int)).length c2])
          have hI6 := HI3.out.add HAB.out.1 HAB.out.2 HX.out.1 HX.out.2.1 HX.out.2.2 hB3 hown hm6 hg6
          have hmo : m < w.heap.size := HH.out.map.lt
          have hml := HI3.out.ml
          have hrne : m' ≠ r := by
            intro e
            have h1 := HRW2.out
            obtain ⟨es, clock, since, seen, c0, hb, _, _, _, hr, _⟩ := h1
            obtain ⟨es', c', hb', _⟩ := HAB.out.1.map
            rw [e, hr] at hb'
            cases hb'
          have hr3 := HRW2.out.kept (⟨hB3.os, hB3.tape, hB3.output, hB3.size, fun k hk _ => hB3.block k hk⟩ : World.grownBy W2 w3 none) (by simp) (by simp)
          have hrr6 := hr3.kept hg6 (fun e => by have := Option.some.inj e; omega) (fun e => hrne (Option.some.inj e).symm)
          have hq1 : w6.cell? ⟨p', 4, none⟩ = some (.map (some m')) := by
            obtain ⟨L2, a2, -⟩ := hI6.dev
            exact cl_of a2.obj 4
          have hq0 : w3.cell? ⟨p', 4, none⟩ = some (.map (some m')) := cl_of (bblk hB3 HAB.out.1.obj) 4
          have hz0 : w3.cell? ⟨wr.heap.size, 0, none⟩ = some (.slice (some ⟨g, 0, none⟩) (s.rows (i : Int)).length c1) := (cell_eqb (hB3.block _ HSS.out.2)).trans hHeld.2
          have hz1 : w6.cell? ⟨wr.heap.size, 0, none⟩ = some (.slice (some ⟨g, 0, none⟩) (s.rows (i : Int)).length c1) := (cell_eqb (hg6.block _ (Nat.lt_of_lt_of_le HSS.out.2 hB3.size) (fun e => by have := Option.some.inj e; have := HSS.out.1; omega))).trans hz0
          have HI6 := Lib.hid hI6
          have HR6 := Lib.hid hrr6
          clear hI6 hrr6 hr3 hm6 hg6 hm3 hown hB3 hrne
          refine hK.out _ _ (by exact ⟨hq0, hz0⟩) (fun hHeld => ?_)
          clear hK K
          (try simp only [Act.put, List.setIfInBounds_toArray, List.set_cons_succ, List.set_cons_zero])
          clear hHeld
          have hHeld : _ ∧ _ := ⟨hq0, hz0⟩
          refine wpAnyH_now (i := 8) (v := ?v323) rfl (by kernel_rfl) (by kernel_rfl) (by kernel_rfl) (fun _ _ _ h => h) (by rfl) ?h323 (by assumption) ?_
          case h323 => ((intro w hSw; (try dsimp only at hSw); go_simp); try with_reducible rfl)
          (try simp only [Act.put, List.setIfInBounds_toArray, List.set_cons_succ, List.set_cons_zero])
          refine wpAnyH_only (i := 9) (by kernel_rfl) rfl (by rfl) (fun K hK => ?_)
          go_simp
          refine hK.out _ _ (by exact ⟨hq1, hz1⟩) (fun hHeld => ?_)
          clear hK K
          (try simp only [Act.put, List.setIfInBounds_toArray, List.set_cons_succ, List.set_cons_zero])
          refine wpAnyH_done (by kernel_rfl) ?_ _
          refine NoPanic.normal ?_
          obtain ⟨y1, hy1⟩ : ∃ k : Nat, k = 0 := ⟨_, rfl⟩
          obtain ⟨y2, hy2⟩ : ∃ k : Nat, k = 0 := ⟨_, rfl⟩
          exact ⟨rfl, g2, c2, y1, y2, rfl, HR6.out, HI6.out⟩
        case hc =>
          rintro z1 z2 z3 z4 w6 ⟨hr6, hI6⟩
          have HI6 := Lib.hid hI6
          have HR6 := Lib.hid hr6
          have HLF := Lib.hid hrg.left_eq
          clear hI6 hr6 hrg2 hrg hen hg2 hs2
          go_wp2_with fail
          go_roundw
          case rel => exact ⟨_, cnt2, HR6.out, HI6.out⟩
          case measure => rw [HR6.out.left_eq, HLF.out]; exact hlt
end
end Go.Proofs.Ytjjphcnoegaimaa
