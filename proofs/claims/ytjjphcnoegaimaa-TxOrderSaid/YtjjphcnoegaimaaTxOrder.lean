/- lunettelaw08.TxOrder: the walk. -/
import Derived.Test.YtjjphcnoegaimaaTwo
import Derived.Test.YtjjphcnoegaimaaSG
namespace Go.Proofs.Ytjjphcnoegaimaa
open Go.RowKit Go.Shelf Go.Maps
set_option maxRecDepth 20000
set_option linter.unusedVariables false

def nsOf (P : Puts) : List Value := P.map fun x => .int .i64 (x.1 : Int)
def ssOf (P : Puts) : List Value := P.map fun x => .string x.2
theorem nsOf_snoc (P : Puts) (x : Nat × ByteArray) : nsOf (P ++ [x]) = nsOf P ++ [.int .i64 (x.1 : Int)] := by simp [nsOf]
theorem ssOf_snoc (P : Puts) (x : Nat × ByteArray) : ssOf (P ++ [x]) = ssOf P ++ [.string x.2] := by simp [ssOf]
theorem own_ne {W : World} {b1 b2 : Nat} {e1 e2 : TypeId} {z1 z2 : Nat} {v1 v2 : Value} {n1 n2 : Nat} {x1 x2 : List Value} (h1 : W.ownsRow b1 e1 z1 v1 n1 x1) (h2 : W.ownsRow b2 e2 z2 v2 n2 x2) (he : e1 ≠ e2) {k : Nat} (hk : v1.ownBlock = some k) : v2.ownBlock ≠ some k := by
  intro e
  rcases h1.2 with ⟨rfl, _⟩ | ⟨g, c, cur, rfl, _, hb, _⟩
  · cases hk
  · cases hk
    rcases h2.2 with ⟨rfl, _⟩ | ⟨g2, c2, cur2, rfl, _, hb2, _⟩
    · cases e
    · cases e
      rw [hb] at hb2
      cases hb2
      exact he rfl
theorem own_keep {W W' : World} {b : Nat} {e : TypeId} {size : Nat} {v : Value} {n : Nat} {xs : List Value} (h : W.ownsRow b e size v n xs) (hb : ∀ k, v.ownBlock = some k → W'.heap[k]? = W.heap[k]?) : W'.ownsRow b e size v n xs := by
  obtain ⟨hlen, hrow⟩ := h
  refine ⟨hlen, ?_⟩
  rcases hrow with h' | ⟨g, cap, cur, rfl, h0, hh, hr⟩
  · exact .inl h'
  · exact .inr ⟨g, cap, cur, rfl, h0, (hb g rfl).trans hh, hr⟩
theorem own_lt' {W : World} {b : Nat} {e : TypeId} {size : Nat} {v : Value} {n : Nat} {xs : List Value} (h : W.ownsRow b e size v n xs) {k : Nat} (hk : v.ownBlock = some k) : b ≤ k ∧ k < W.heap.size ∧ ∃ cur, W.heap[k]? = some (.cells cur e (0, 0)) := by
  rcases h.2 with ⟨rfl, _⟩ | ⟨g, c, cur, rfl, h0, hb, _⟩
  · cases hk
  · cases hk; exact ⟨h0, blk_lt hb, cur, hb⟩
theorem zero_int (w : World) : (zeroValue 3).run Try.prog w = .ok (.int .i64 0) w := by kernel_rfl

/-- Unlike sectors, each once, with what they are to be; and a count of them. -/
structure OrI (U : World) (ms k : Nat) (nv sv : Value) (wr : World) : Prop where
  ex : ∃ (P : Puts) (S : List (Int × Value)), MapS wr ms .i64 S ∧ wr.ownsRow U.heap.size 3 1 nv P.length (nsOf P) ∧ wr.ownsRow U.heap.size 9 1 sv P.length (ssOf P) ∧
    (∀ j : Nat, (mget (j : Int) S = none ∧ j ∉ P.map Prod.fst) ∨ (∃ c : Int, 1 ≤ c ∧ c ≤ k ∧ mget (j : Int) S = some (.int .i64 c) ∧ j ∈ P.map Prod.fst)) ∧
    (P.map Prod.fst).Nodup ∧ (∀ x ∈ P, 16 ≤ x.1 ∧ x.1 < 40 ∧ x.2.size = 64) ∧ P.length ≤ k
  below : Below U.heap.size U wr
  ge : U.heap.size ≤ ms
theorem ori_bump {U W : World} {ms k : Nat} {nv sv : Value} {P : Puts} {S : List (Int × Value)} (hS : MapS W ms .i64 S) (hn : W.ownsRow U.heap.size 3 1 nv P.length (nsOf P)) (hs : W.ownsRow U.heap.size 9 1 sv P.length (ssOf P)) (hB : Below U.heap.size U W) (hge : U.heap.size ≤ ms)
    (c : Int) (hc0 : 0 ≤ c) (hck : c ≤ k) (nn : Nat) (hwf : (Lit.int .i64 (nn : Int)).wf = true) (hnd : (P.map Prod.fst).Nodup) (hrng : ∀ x ∈ P, 16 ≤ x.1 ∧ x.1 < 40 ∧ x.2.size = 64) (hPk : P.length ≤ k + 1)
    (hrel : ∀ j : Nat, j ≠ nn → (mget (j : Int) S = none ∧ j ∉ P.map Prod.fst) ∨ (∃ c : Int, 1 ≤ c ∧ c ≤ k ∧ mget (j : Int) S = some (.int .i64 c) ∧ j ∈ P.map Prod.fst)) (hin : nn ∈ P.map Prod.fst) :
    ∃ W9, (Instr.mapUpdate 85 (.map (some ms)) (.int .i64 (nn : Int)) (.int .i64 (c + 1))).run Try.prog W = .ok () W9 ∧ OrI U ms (k + 1) nv sv W9 := by
  obtain ⟨W9, hr, hS9, hg⟩ := hS.put (t := 85) Try.underlying85 Try.underlying3 (nn : Int) hwf (.int .i64 (c + 1))
  have hne : ∀ {e : TypeId} {v : Value} {n : Nat} {xs : List Value}, W.ownsRow U.heap.size e 1 v n xs → ∀ i, v.ownBlock = some i → W9.heap[i]? = W.heap[i]? := fun h i e => hg.block i (own_lt' h e).2.1 (fun e2 => by
    obtain ⟨cur, hcur⟩ := (own_lt' h e).2.2
    obtain ⟨es, cl, hes, _⟩ := hS
    rw [Option.some.inj e2, hes] at hcur
    cases hcur)
  refine ⟨W9, hr, ⟨⟨P, _, hS9, own_keep hn (hne hn), own_keep hs (hne hs), fun j => ?_, hnd, hrng, hPk⟩, hB.grown hg hB.size (fun i e => by cases e; exact hge), hge⟩⟩
  rw [mget_put]
  by_cases e : j = nn
  · rw [if_pos (by omega)]
    exact .inr ⟨c + 1, by omega, by push_cast; omega, rfl, by rw [e]; exact hin⟩
  · rw [if_neg (by omega)]
    exact (hrel j e).imp id (fun ⟨c, a, b, d⟩ => ⟨c, a, by push_cast; omega, d⟩)
/-- So many are written, from both ends. -/
structure L2 (w : World) (p1 j1 t1 m1 p2 j2 t2 m2 : Nat) (P : Puts) (nv sv : Value) (k : Nat) (W : World) : Prop where
  ex : ∃ X1 X2, Two w p1 j1 t1 m1 0 0 (newS 40) (putsOf (P.take k)) false p2 j2 t2 m2 0 0 (newS 40) (putsOf (P.reverse.take k)) false W X1 X2 ∧ ∀ i, (nv.ownBlock = some i ∨ sv.ownBlock = some i) → X1 i ∧ X2 i
  n : W.ownsRow 0 3 1 nv P.length (nsOf P)
  s : W.ownsRow 0 9 1 sv P.length (ssOf P)
theorem map_ne {W : World} {tb p jb m : Nat} {M : Wl} {dn : Bool} (h : TxA W tb p jb m M dn) {b : Nat} {e : TypeId} {z : Nat} {v : Value} {n : Nat} {xs : List Value} (hr : W.ownsRow b e z v n xs) {i : Nat} (hi : v.ownBlock = some i) : i ≠ m := by
  rintro rfl
  obtain ⟨cur, hc⟩ := (own_lt' hr hi).2.2
  obtain ⟨L, ⟨es, c, hb, _⟩, _⟩ := h.map
  rw [hb] at hc
  cases hc
section
variable {w W : World} {p1 j1 t1 m1 p2 j2 t2 m2 : Nat} {P : Puts}
theorem L2.cells {gn cn gs cs k : Nat} (h : L2 w p1 j1 t1 m1 p2 j2 t2 m2 P (.slice (some ⟨gn, 0, none⟩) P.length cn) (.slice (some ⟨gs, 0, none⟩) P.length cs) k W) (i : Nat) (hi : i < P.length) : W.cell? ⟨gn, i, none⟩ = some (.int .i64 (P[i].1 : Int)) ∧ W.cell? ⟨gs, i, none⟩ = some (.string P[i].2) :=
  ⟨ownsRow_cell h.n rfl (by simp [nsOf, hi]), ownsRow_cell h.s rfl (by simp [ssOf, hi])⟩
theorem L2.of {nv sv : Value} {k : Nat} {W' : World} (h : L2 w p1 j1 t1 m1 p2 j2 t2 m2 P nv sv k W) (hB : Below W.heap.size W W') : L2 w p1 j1 t1 m1 p2 j2 t2 m2 P nv sv k W' := by
  obtain ⟨X1, X2, hT, hx⟩ := h.ex
  exact ⟨⟨_, _, hT.take hB, fun i hi => ⟨.inl (hx i hi).1, .inl (hx i hi).2⟩⟩, own_keep h.n (fun i e => hB.block i (own_lt' h.n e).2.1), own_keep h.s (fun i e => hB.block i (own_lt' h.s e).2.1)⟩
theorem stepOne {X1 X2 : Nat → Prop} {M1 M2 : Wl} {nv sv : Value} (h : Two w p1 j1 t1 m1 0 0 (newS 40) M1 false p2 j2 t2 m2 0 0 (newS 40) M2 false W X1 X2) (hx : ∀ i, (nv.ownBlock = some i ∨ sv.ownBlock = some i) → X1 i ∧ X2 i) (hn : W.ownsRow 0 3 1 nv P.length (nsOf P)) (hs : W.ownsRow 0 9 1 sv P.length (ssOf P))
    (x : Nat × ByteArray) (hr : 16 ≤ x.1 ∧ x.1 < 40 ∧ x.2.size = 64) (hl : M1.length < 10) :
    Calls Try.prog 51 #[.pointer (some ⟨t1, 0, none⟩), .int .i64 (x.1 : Int), .string x.2] W fun e W1 => e = .returned (.int .i64 0) ∧ ∃ X2', Two w p1 j1 t1 m1 0 0 (newS 40) (pins (x.1 : Int) x.2 M1) false p2 j2 t2 m2 0 0 (newS 40) M2 false W1 X1 X2' ∧ (∀ i, (nv.ownBlock = some i ∨ sv.ownBlock = some i) → X1 i ∧ X2' i) ∧ W1.ownsRow 0 3 1 nv P.length (nsOf P) ∧ W1.ownsRow 0 9 1 sv P.length (ssOf P) := by
  refine (tx_write h.a x.1 hr.2.1 x.2 hr.2.2 most_12 (by decide)).mono ?_
  rintro e W1 (⟨-, rfl, a, b⟩ | ⟨⟨-, hno⟩, -⟩)
  · have hkn : ∀ i, nv.ownBlock = some i → W1.heap[i]? = W.heap[i]? := fun i e => b i (.inr ⟨(hx i (.inl e)).1, map_ne h.a.t hn e⟩)
    have hks : ∀ i, sv.ownBlock = some i → W1.heap[i]? = W.heap[i]? := fun i e => b i (.inr ⟨(hx i (.inr e)).1, map_ne h.a.t hs e⟩)
    have hn1 := own_keep hn hkn
    have hs1 := own_keep hs hks
    refine ⟨rfl, _, h.stepA a (fun k hk x1 x2 x3 => b k (hk.imp id (fun y => ⟨y, x3⟩))), fun i hi => ⟨(hx i hi).1, .inl (hx i hi).2, ?_⟩, hn1, hs1⟩
    rcases hi with e | e
    · exact (own_lt' hn1 e).2.1
    · exact (own_lt' hs1 e).2.1
  · exact absurd hno (by omega)
theorem put2 {nv sv : Value} {k : Nat} (h : L2 w p1 j1 t1 m1 p2 j2 t2 m2 P nv sv k W) (hk : k < P.length) (hP : P.length ≤ 9) (hr : ∀ x ∈ P, 16 ≤ x.1 ∧ x.1 < 40 ∧ x.2.size = 64) :
    Calls Try.prog 51 #[.pointer (some ⟨t1, 0, none⟩), .int .i64 ((P[k]'hk).1 : Int), .string (P[k]'hk).2] W fun e W1 => e = .returned (.int .i64 0) ∧ (W1.ownsRow 0 3 1 nv P.length (nsOf P) ∧ W1.ownsRow 0 9 1 sv P.length (ssOf P)) ∧
      Calls Try.prog 51 #[.pointer (some ⟨t2, 0, none⟩), .int .i64 ((P[P.length - 1 - k]'(by omega)).1 : Int), .string (P[P.length - 1 - k]'(by omega)).2] W1 fun e W2 => e = .returned (.int .i64 0) ∧ L2 w p1 j1 t1 m1 p2 j2 t2 m2 P nv sv (k + 1) W2 := by
  obtain ⟨X1, X2, hT, hx⟩ := h.ex
  have hl1 : (putsOf (P.take k)).length < 10 := Nat.lt_of_le_of_lt (putsOf_length _) (by rw [List.length_take]; omega)
  have hl2 : (putsOf (P.reverse.take k)).length < 10 := Nat.lt_of_le_of_lt (putsOf_length _) (by rw [List.length_take]; omega)
  refine (stepOne hT hx h.n h.s P[k] (hr _ (List.getElem_mem hk)) hl1).mono ?_
  rintro e W1 ⟨rfl, X2', hT1, hx1, hn1, hs1⟩
  refine ⟨rfl, ⟨hn1, hs1⟩, (stepOne hT1.swap (fun i hi => (hx1 i hi).symm) hn1 hs1 (P[P.length - 1 - k]'(by omega)) (hr _ (List.getElem_mem _)) hl2).mono ?_⟩
  rintro e W2 ⟨rfl, X1', hT2, hx2, hn2, hs2⟩
  have e1 : putsOf (P.take (k + 1)) = pins ((P[k]'hk).1 : Int) (P[k]'hk).2 (putsOf (P.take k)) := by
    rw [List.take_succ_eq_append_getElem hk, putsOf_snoc]
  have hk' : k < P.reverse.length := by rw [List.length_reverse]; exact hk
  have e2 : putsOf (P.reverse.take (k + 1)) = pins ((P[P.length - 1 - k]'(by omega)).1 : Int) (P[P.length - 1 - k]'(by omega)).2 (putsOf (P.reverse.take k)) := by
    rw [List.take_succ_eq_append_getElem hk', putsOf_snoc, List.getElem_reverse]
  exact ⟨rfl, ⟨X1', X2', by rw [e1, e2]; exact hT2.swap, fun i hi => (hx2 i hi).symm⟩, hn2, hs2⟩
end
section
variable {w : World}
set_option maxHeartbeats 16000000 in
theorem order_walk {w : World} (v : Value) (ls : List St3) (hl : Sl3 w v ls) : Calls Try.prog 10 #[v] w fun e w' => e = .returned (.bool true) ∧ Below w.heap.size w w' := by
  have hlong := long8_any hl
  have HLG := Lib.hid hlong
  have HWF := Lib.hid hl.wf
  obtain ⟨⟨ao, cap, rfl, hcell⟩, -⟩ := hl
  have HC := Lib.hid hcell
  have hmade := made_any (w0 := w) (W := w) 40 (by decide) (by decide) (Below.refl _ _)
  have HMD := Lib.hid hmade
  have hmm := @run_makeMap Try.prog
  obtain ⟨i1, hi1, hy0, hy1, hy2⟩ := info_parts Try.infoInt
  obtain ⟨i0, hi0, hz0, hz1, hz2⟩ := infoStr
  clear hcell hmade hlong
  go_enter Try.func10, Try.ntmps10
  go_wp2_with fail
  refine HLG.out.mono ?_
  rintro e w1 ⟨c, rfl, hc, rfl⟩
  cases c
  · by_cases hk3 : 9 < ls.length
    · have e3 : decide ((ls.length : Int) > 9) = true := decide_eq_true (by omega)
      have e3' : decide (9 < ls.length) = true := decide_eq_true hk3
      clear hc
      go_wp2_with fail
      refine (alive08_any _).mono ?_
      rintro e w1 ⟨rfl, hB⟩
      go_wp2_with fail
      go_ret
      exact ⟨rfl, hB⟩
    · have e3 : decide ((ls.length : Int) > 9) = false := decide_eq_false (by omega)
      have e3' : decide (9 < ls.length) = false := decide_eq_false hk3
      have HLEN : Hid (ls.length ≤ 9) := Lib.hid (by omega)
      clear hc
      go_wp2_with fail
      refine HMD.out.mono ?_
      rintro e w1 ⟨p1, j1, rfl, h1⟩
      have H1 := Lib.hid h1
      have HM2 := Lib.hid (made_any (w0 := w) (W := w1) 40 (by decide) (by decide) h1.j.dev.below)
      clear h1
      go_wp2_with fail
      refine HM2.out.mono ?_
      rintro e w2 ⟨p2, j2, rfl, h2⟩
      have HA2 := Lib.hid (H1.out.j.take h2.below)
      have H2 := Lib.hid h2
      clear h2
      go_wp2_with fail
      refine HA2.out.begin.mono ?_
      rintro e w3 ⟨rfl, h3, hB3⟩
      have HA3 := Lib.hid h3
      have HB3 := Lib.hid (H2.out.j.take hB3)
      have HW3 := Lib.hid hB3
      clear h3 hB3
      go_wp2_with fail
      refine HB3.out.begin.mono ?_
      rintro e w4 ⟨rfl, h4, hB4⟩
      have htwo : ∃ X1 X2, Two w p1 j1 (w2.heap.size + 1) w2.heap.size 0 0 (newS 40) [] false p2 j2 (w3.heap.size + 1) w3.heap.size 0 0 (newS 40) [] false w4 X1 X2 := by
        have a1 := blk_lt H1.out.j.obj
        have a2 := blk_lt H2.out.j.obj
        have a3 := H2.out.ge
        have a4 := blk_lt HA3.out.t.obj
        have a5 := blk_lt h4.t.obj
        have a6 := HW3.out.size
        have a7 := hB4.size
        have a8 := H1.out.ge
        have a9 := H1.out.j.dev.below.size
        refine ⟨_, _, HA3.out.take hB4, h4, fun k x y => ?_, ⟨?_, ?_, ?_⟩, ⟨?_, ?_, ?_⟩, ⟨by omega, by omega, by omega⟩, ⟨by omega, by omega, by omega⟩, by omega, by omega, by omega⟩
        · by_cases e1 : k < w1.heap.size
          · exact .inr (.inl (.inl (.inl ⟨x, e1⟩)))
          · by_cases e2 : k < w2.heap.size
            · exact .inl (.inl (.inl (.inr ⟨by omega, e2⟩)))
            · by_cases e3 : k < w3.heap.size
              · exact .inl (.inl (.inr ⟨by omega, e3⟩))
              · exact .inl (.inr ⟨by omega, y⟩)
        · exact .inl (.inl (.inr ⟨a3, a2⟩))
        · exact .inr ⟨by omega, a5⟩
        · exact .inr ⟨by omega, by omega⟩
        · exact .inl (.inl (.inl ⟨by omega, a1⟩))
        · exact .inl (.inr ⟨by omega, a4⟩)
        · exact .inl (.inr ⟨by omega, by omega⟩)
      have HTW := Lib.hid htwo
      obtain ⟨t1, ht1⟩ : ∃ t1, w2.heap.size + 1 = t1 := ⟨_, rfl⟩
      obtain ⟨t2, ht2⟩ : ∃ t2, w3.heap.size + 1 = t2 := ⟨_, rfl⟩
      obtain ⟨m1, hm1⟩ : ∃ m1, w2.heap.size = m1 := ⟨_, rfl⟩
      obtain ⟨m2, hm2⟩ : ∃ m2, w3.heap.size = m2 := ⟨_, rfl⟩
      rw [ht1, ht2, hm1, hm2] at HTW
      simp only [ht1, ht2]
      clear htwo h4 hB4 ht1 ht2 hm1 hm2 HA3 HB3 HA2 H1 H2 HW3 HM2 HMD
      go_wp2_with fail
      have hI0 : OrI w4 w4.heap.size 0 (.slice none 0 0) (.slice none 0 0) (w4.alloc (.map #[] 0)) :=
        ⟨⟨[], [], MapS.new _ _, World.ownsRow_nil _ _ _ _, World.ownsRow_nil _ _ _ _, fun j => .inl ⟨rfl, by simp⟩, List.nodup_nil, (fun x hx => by cases hx), Nat.le_refl _⟩, bnew _ _, Nat.le_refl _⟩
      have HI0 := Lib.hid hI0
      obtain ⟨ms, hms⟩ : ∃ ms, w4.heap.size = ms := ⟨_, rfl⟩
      simp only [hms]
      have HMS := Lib.hid hms
      clear hI0 hms
      go_loopw [12, 13, 14, 15] (fun v12 v13 v14 _ wr => ∃ k : Nat, k ≤ ls.length ∧ v14 = .int .i64 k ∧ OrI w4 ms k v12 v13 wr) (fun _ _ v14 _ _ => ls.length - (intOf v14).toNat)
      case atStart => exact ⟨0, Nat.zero_le _, rfl, by have := HI0.out; rw [HMS.out] at this; exact this⟩
      case round =>
        obtain ⟨k, hk1, rfl, hI⟩ := hrel
        by_cases hlt : k < ls.length
        · obtain ⟨b, off, rfl, hb, hcc⟩ := HC.out (by omega)
          obtain ⟨c0, c1, c2, c3, c4⟩ := hcc k hlt
          have hwf := HWF.out (ls.getD k st0) (by rw [List.getD_eq_getElem?_getD, List.getElem?_eq_getElem hlt]; exact List.getElem_mem hlt)
          generalize ls.getD k st0 = x at *
          have hbw : Below w.heap.size w wr := by obtain ⟨X1, X2, h1⟩ := HTW.out; exact bt h1.a.j.dev.below hI.below
          have HWW : Hid (w.heap.size ≤ w4.heap.size) := Lib.hid (by obtain ⟨X1, X2, h1⟩ := HTW.out; exact h1.a.j.dev.below.size)
          have d1 := (hbw.cell (p := ⟨b, off + k * 5 + 1, none⟩) hb).trans c1
          have d3 := (hbw.cell (p := ⟨b, off + k * 5 + 3, none⟩) hb).trans c3
          have hfl := fun w => full_any x.s hwf.2.2.2 w
          have hsz : (fullB x.s).size = 64 := fullB_size _
          generalize fullB x.s = dat at *
          obtain ⟨u, hu⟩ : ∃ u : Nat, IntKind.u64.wrap x.i = (u : Int) := ⟨(IntKind.u64.wrap x.i).toNat, by rw [IntKind.wrap_u64]; omega⟩
          have hu2 : u < 18446744073709551616 := by rw [IntKind.wrap_u64] at hu; omega
          obtain ⟨q, hq⟩ : ∃ q : Nat, u % 24 = q := ⟨_, rfl⟩
          have hq1 : (u : Int) % 24 = (q : Int) := by omega
          have hq2 : q < 24 := by omega
          obtain ⟨nn, hnn⟩ : ∃ nn, 16 + q = nn := ⟨_, rfl⟩
          have hw2 : IntKind.i64.wrap (16 + (q : Int)) = ((nn : Nat) : Int) := by rw [i64_sm (by omega) (by omega)]; omega
          have HFL := Lib.hid hfl
          have HSZ := Lib.hid hsz
          have HNN : Hid (16 ≤ nn ∧ nn < 40) := Lib.hid ⟨by omega, by omega⟩
          obtain ⟨⟨P, S, hS, hn, hs, hrel, hnd, hrng, hPk⟩, hBr, hge⟩ := hI
          have hwfn : (Lit.int .i64 (nn : Int)).wf = true := by simp [Lit.wf, IntKind.min, IntKind.signed, IntKind.bits]; omega
          have hlk := hS.mapAt.look (t := 85) Try.underlying85 Try.underlying3 (zero_int wr) (nn : Int)
          have hk9 := HLEN.out
          rcases hrel nn with ⟨hg0, hnot⟩ | ⟨c, hcp, hck, hg0, hin⟩
          · rw [hg0, Option.getD_none] at hlk
            have HS := Lib.hid hS
            have HN := Lib.hid hn
            have HSR := Lib.hid hs
            have HB := Lib.hid hBr
            have h63 : P.length + 1 ≤ maxLen := by unfold maxLen; omega
            have hby1 : (P.length + 1) * 8 ≤ 140737488355328 := by omega
            have hby2 : (P.length + 1) * 16 ≤ 140737488355328 := by omega
            have hone1 : ∀ u ∈ [Value.int .i64 (nn : Int)], u.oneCell' = true := by simp [Value.oneCell']
            have hbase := (bal HB.out (.cells #[.int .i64 (nn : Int)] 3)).size
            have hn' := hn.alloc (.cells #[.int .i64 (nn : Int)] 3)
            have hq5 : ∀ (w5 : World), (wr.alloc (.cells #[.int .i64 (nn : Int)] 3)).grownBy w5 u12.ownBlock → (Below w4.heap.size w4 w5 ∧ MapS w5 ms .i64 S ∧ w5.ownsRow w4.heap.size 9 1 u13 P.length (ssOf P)) ∧ w5.cell? ⟨b, off + k * 5 + 3, none⟩ = some (.string x.s) := by
              intro w5 hgrow5
              have hB5 : Below w4.heap.size w4 w5 := (bal HB.out _).grown hgrow5 hbase (fun i e => (own_lt' hn' e).1)
              refine ⟨⟨hB5, HS.out.of_block ((hgrow5.block ms (by have := HS.out.lt; simp; omega) (fun e => ?_)).trans (hp_old _ _ HS.out.lt)), own_keep HSR.out (fun i e => (hgrow5.block i (by have := (own_lt' HSR.out e).2.1; simp; omega) (fun e2 => own_ne HSR.out HN.out (by decide) e (e2.symm))).trans (hp_old _ _ (own_lt' HSR.out e).2.1))⟩, (hB5.cell (p := ⟨b, off + k * 5 + 3, none⟩) (Nat.lt_of_lt_of_le hb HWW.out)).trans ((hBr.cell (p := ⟨b, off + k * 5 + 3, none⟩) (Nat.lt_of_lt_of_le hb HWW.out)).symm.trans d3)⟩
              obtain ⟨cur, hcur⟩ := (own_lt' HN.out e.symm).2.2
              obtain ⟨es, cl, hes, _⟩ := HS.out
              rw [hcur] at hes
              cases hes
            clear hbw hcc c0 c1 c2 c3 c4 hwf hq hnn hS hn hs hBr
            go_wp2_with (at_builtin; refine wpList_append_own _ rfl _ _ 38 rfl w4.heap.size 3 i1 (.int .i64 0) 1 8 Try.underlying38 hi1 hy0 hy1 hy2 rfl (by decide) _ P.length (nsOf P) rfl hn' ⟨wr.heap.size, 0, none⟩ 1 1 [.int .i64 (nn : Int)] rfl rfl (World.news_of_block (hp_new _ _ rfl)) hone1 h63 hby1 hbase ?_; intro v5 w5 hown5 hgrow5 _; have q5 := (hq5 w5 hgrow5).1; have d5 := (hq5 w5 hgrow5).2)
            have H5 := Lib.hid q5
            have HO5 := Lib.hid hown5
            clear q5 hown5 hgrow5 hn' hbase hlk hby1 hq5
            refine (HFL.out _).mono ?_
            rintro e w6 ⟨rfl, hB6⟩
            have HB6 := Lib.hid hB6
            have hs6 := own_keep H5.out.2.2 (W' := w6) (fun i e => hB6.block i (own_lt' H5.out.2.2 e).2.1)
            have HS6 := Lib.hid hs6
            have hs7 := hs6.alloc (.cells #[.string dat] 9)
            have hone2 : ∀ u ∈ [Value.string dat], u.oneCell' = true := by simp [Value.oneCell']
            have hB7 := bal (H5.out.1.trans (hB6.mono H5.out.1.size)) (.cells #[.string dat] 9)
            have hbase7 := hB7.size
            have HB7 := Lib.hid hB7
            clear hB6 hs6 hB7
            have hq8 : ∀ (v8 : Value) (w8 : World), w8.ownsRow w4.heap.size 9 1 v8 (P.length + 1) (ssOf P ++ [.string dat]) → (w6.alloc (.cells #[.string dat] 9)).grownBy w8 u13.ownBlock →
                (Instr.lookup 85 (.map (some ms)) (.int .i64 (nn : Int)) false).run Try.prog w8 = .ok (.int .i64 0) w8 ∧ ∃ W9, (Instr.mapUpdate 85 (.map (some ms)) (.int .i64 (nn : Int)) (.int .i64 1)).run Try.prog w8 = .ok () W9 ∧ OrI w4 ms (k + 1) v5 v8 W9 := by
              intro v8 w8 hown8 hgrow8
              have hn6 := own_keep HO5.out (W' := w6) (fun i e => HB6.out.block i (own_lt' HO5.out e).2.1)
              have hm6 := H5.out.2.1.of_block (HB6.out.block ms H5.out.2.1.lt)
              have hm8 : MapS w8 ms .i64 S := hm6.of_block ((hgrow8.block ms (by have := hm6.lt; simp; omega) (fun e => by
                obtain ⟨cur, hcur⟩ := (own_lt' HS6.out e.symm).2.2
                obtain ⟨es, cl, hes, _⟩ := hm6
                rw [hcur] at hes
                cases hes)).trans (hp_old _ _ hm6.lt))
              have hn8 := own_keep hn6 (W' := w8) (fun i e => (hgrow8.block i (by have := (own_lt' hn6 e).2.1; simp; omega) (fun e2 => own_ne hn6 HS6.out (by decide) e e2.symm)).trans (hp_old _ _ (own_lt' hn6 e).2.1))
              have hl8 := hm8.mapAt.look (t := 85) Try.underlying85 Try.underlying3 (zero_int w8) (nn : Int)
              rw [hg0, Option.getD_none] at hl8
              have hlen : (P ++ [(nn, dat)]).length = P.length + 1 := by simp
              obtain ⟨W9, r9, i9⟩ := ori_bump (U := w4) (k := k) (P := P ++ [(nn, dat)]) hm8 (by rw [hlen, nsOf_snoc]; exact hn8) (by rw [hlen, ssOf_snoc]; exact hown8) (HB7.out.grown hgrow8 hbase7 (fun i e => (own_lt' HS6.out e).1)) hge 0 (Int.le_refl _) (by omega) nn hwfn
                (by rw [List.map_append, List.nodup_append]; exact ⟨hnd, by simp, fun a ha b hb => by simp at hb; subst hb; exact fun e => hnot (e ▸ ha)⟩)
                (fun x hx => by
                  rcases List.mem_append.1 hx with hx | hx
                  · exact hrng x hx
                  · rw [List.mem_singleton] at hx
                    subst hx
                    exact ⟨HNN.out.1, HNN.out.2, HSZ.out⟩)
                (by rw [hlen]; omega)
                (fun j hj => (hrel j).imp (fun h => ⟨h.1, fun hm => by
                  rw [List.map_append] at hm
                  rcases List.mem_append.1 hm with hm | hm
                  · exact h.2 hm
                  · simp at hm; exact hj hm⟩) (fun ⟨c, a, b, d, e⟩ => ⟨c, a, b, d, by rw [List.map_append]; exact List.mem_append_left _ e⟩))
                (by simp)
              exact ⟨hl8, W9, r9, i9⟩
            clear hrel hrng hnd hnot hone1
            go_wp2_with (at_builtin; refine wpList_append_own _ rfl _ _ 42 rfl w4.heap.size 9 i0 (.string ByteArray.empty) 1 16 Try.underlying42 hi0 hz0 hz1 hz2 rfl (by decide) _ P.length (ssOf P) rfl hs7 ⟨w6.heap.size, 0, none⟩ 1 1 [.string dat] rfl rfl (World.news_of_block (hp_new _ _ rfl)) hone2 h63 hby2 hbase7 ?_; intro v8 w8 hown8 hgrow8 _; obtain ⟨hl8, W9, hr9, hI9⟩ := hq8 v8 w8 hown8 hgrow8)
            go_roundw
            case rel => exact ⟨k + 1, by omega, by go_num, hI9⟩
            case measure => simp [intOf]; omega
          · rw [hg0, Option.getD_some] at hlk
            have hc0 : (c == 0) = false := by simp; omega
            have hwc : IntKind.i64.wrap (c + 1) = c + 1 := i64_sm (by omega) (by omega)
            obtain ⟨W9, hr9, hI9⟩ := ori_bump (U := w4) (k := k) hS hn hs hBr hge c (by omega) hck nn hwfn hnd hrng (by omega) (fun j _ => hrel j) hin
            have HI9 := Lib.hid hI9
            clear hrel hrng hnd hin hI9 hn hs hBr hbw hcc c0 c1 c2 c3 c4 hwf hq hnn hcp hck hS
            go_wp2_with fail
            go_roundw
            case rel => exact ⟨k + 1, by omega, by go_num, HI9.out⟩
            case measure => simp [intOf]; omega
        · obtain rfl : k = ls.length := by omega
          obtain ⟨⟨P, S, hS, hn, hs, hrel, hnd, hrng, hPk⟩, hBr, hge⟩ := hI
          have hP9 : P.length ≤ 9 := Nat.le_trans hPk HLEN.out
          have hL0 : L2 w p1 j1 t1 m1 p2 j2 t2 m2 P u12 u13 0 wr := by
            obtain ⟨X1, X2, h⟩ := HTW.out
            refine ⟨⟨_, _, h.take hBr, fun i hi => ?_⟩, ownsRow_base hn, ownsRow_base hs⟩
            rcases hi with e | e
            · have := own_lt' hn e
              exact ⟨.inr ⟨this.1, this.2.1⟩, .inr ⟨this.1, this.2.1⟩⟩
            · have := own_lt' hs e
              exact ⟨.inr ⟨this.1, this.2.1⟩, .inr ⟨this.1, this.2.1⟩⟩
          have hsl : ∃ an cn az cs, u12 = .slice an P.length cn ∧ u13 = .slice az P.length cs ∧ (0 < P.length → ∃ gn gs, an = some ⟨gn, 0, none⟩ ∧ az = some ⟨gs, 0, none⟩) := by
            rcases hn.2 with ⟨rfl, h0⟩ | ⟨gn, cn, cur, rfl, _⟩
            · rcases hs.2 with ⟨rfl, h1⟩ | ⟨gs, cs, cur, rfl, _⟩
              · exact ⟨none, 0, none, 0, by rw [h0], by rw [h0], fun hp => by omega⟩
              · exact ⟨none, 0, _, _, by rw [h0], rfl, fun hp => by omega⟩
            · rcases hs.2 with ⟨rfl, h1⟩ | ⟨gs, cs, cur2, rfl, _⟩
              · exact ⟨_, _, none, 0, rfl, by rw [h1], fun hp => by omega⟩
              · exact ⟨_, _, _, _, rfl, rfl, fun hp => ⟨gn, gs, rfl, rfl⟩⟩
          obtain ⟨an, cn, az, cs, rfl, rfl, hpos⟩ := hsl
          have HL0 := Lib.hid hL0
          have HND := Lib.hid hnd
          have HRG := Lib.hid hrng
          clear hS hn hs hrel hBr hge hL0 hnd hrng hPk
          obtain ⟨wo, rfl⟩ : ∃ wo : World, wo = wr := ⟨_, rfl⟩
          go_wp2_with fail
          go_loopw [16] (fun v16 wz => ∃ k : Nat, k ≤ P.length ∧ v16 = .int .i64 k ∧ L2 w p1 j1 t1 m1 p2 j2 t2 m2 P (.slice an P.length cn) (.slice az P.length cs) k wz) (fun v16 _ => P.length - (intOf v16).toNat)
          case atStart => exact ⟨0, Nat.zero_le _, rfl, HL0.out⟩
          case round =>
            obtain ⟨k, hk2, rfl, hL⟩ := hrel
            by_cases hlt2 : k < P.length
            · obtain ⟨gn, gs, rfl, rfl⟩ := hpos (by omega)
              obtain ⟨jj, hjj⟩ : ∃ jj, P.length - 1 - k = jj := ⟨_, rfl⟩
              have hjl : jj < P.length := by omega
              have hq := put2 (hL.of (Below.refl _ _).drew) hlt2 hP9 HRG.out
              simp only [hjj] at hq
              obtain ⟨a1, a2⟩ := hL.cells k hlt2
              obtain ⟨b1, b2⟩ := hL.cells jj hjl
              have hx1 := fun (W1 : World) (hn1 : W1.ownsRow 0 3 1 (.slice (some ⟨gn, 0, none⟩) P.length cn) P.length (nsOf P)) (hs1 : W1.ownsRow 0 9 1 (.slice (some ⟨gs, 0, none⟩) P.length cs) P.length (ssOf P)) => (⟨⟨ownsRow_cell hn1 rfl (by simp [nsOf, hlt2]), ownsRow_cell hs1 rfl (by simp [ssOf, hlt2])⟩, ownsRow_cell hn1 rfl (by simp [nsOf, hjl]), ownsRow_cell hs1 rfl (by simp [ssOf, hjl])⟩ : (W1.cell? ⟨gn, k, none⟩ = some (.int .i64 (P[k].1 : Int)) ∧ W1.cell? ⟨gs, k, none⟩ = some (.string P[k].2)) ∧ W1.cell? ⟨gn, jj, none⟩ = some (.int .i64 (P[jj].1 : Int)) ∧ W1.cell? ⟨gs, jj, none⟩ = some (.string P[jj].2))
              have hP1 : IntKind.i64.wrap ((P.length : Int) - 1) = (P.length : Int) - 1 := i64_sm (by omega) (by omega)
              have hP2 : IntKind.i64.wrap ((P.length : Int) - 1 - (k : Int)) = (jj : Int) := by rw [i64_sm (by omega) (by omega)]; omega
              generalize P[k].1 = z1 at *
              generalize P[k].2 = y1 at *
              generalize P[jj].1 = z2 at *
              generalize P[jj].2 = y2 at *
              have hq2 : Calls Try.prog 51 #[.pointer (some ⟨t1, 0, none⟩), .int .i64 (z1 : Int), .string y1] wr.drew fun e W1 => e = .returned (.int .i64 0) ∧ W1.cell? ⟨gn, k, none⟩ = some (.int .i64 (z1 : Int)) ∧ W1.cell? ⟨gs, k, none⟩ = some (.string y1) ∧ W1.cell? ⟨gn, jj, none⟩ = some (.int .i64 (z2 : Int)) ∧ W1.cell? ⟨gs, jj, none⟩ = some (.string y2) ∧
                  Hid (Calls Try.prog 51 #[.pointer (some ⟨t2, 0, none⟩), .int .i64 (z2 : Int), .string y2] W1 fun e W2 => e = .returned (.int .i64 0) ∧ W2.cell? ⟨gn, k, none⟩ = some (.int .i64 (z1 : Int)) ∧ W2.cell? ⟨gs, k, none⟩ = some (.string y1) ∧ W2.cell? ⟨gn, jj, none⟩ = some (.int .i64 (z2 : Int)) ∧ W2.cell? ⟨gs, jj, none⟩ = some (.string y2) ∧ Hid (L2 w p1 j1 t1 m1 p2 j2 t2 m2 P (.slice (some ⟨gn, 0, none⟩) P.length cn) (.slice (some ⟨gs, 0, none⟩) P.length cs) (k + 1) W2)) := by
                refine hq.mono ?_
                rintro e W1 ⟨rfl, ⟨hn1, hs1⟩, hc2⟩
                obtain ⟨⟨r1, r2⟩, r3, r4⟩ := hx1 W1 hn1 hs1
                refine ⟨rfl, r1, r2, r3, r4, Lib.hid (hc2.mono ?_)⟩
                rintro e W2 ⟨rfl, hL2⟩
                obtain ⟨⟨r1, r2⟩, r3, r4⟩ := hx1 W2 hL2.n hL2.s
                exact ⟨rfl, r1, r2, r3, r4, Lib.hid hL2⟩
              have HQ := Lib.hid hq2
              have hjl2 : (jj : Int) < (P.length : Int) := by omega
              clear hq hq2 hx1 hL hjj
              go_wp2_with fail
              go_region_held3 (fun Wq => Wq.cell? ⟨gn, k, none⟩ = some (.int .i64 (z1 : Int)) ∧ Wq.cell? ⟨gs, k, none⟩ = some (.string y1) ∧ Wq.cell? ⟨gn, jj, none⟩ = some (.int .i64 (z2 : Int)) ∧ Wq.cell? ⟨gs, jj, none⟩ = some (.string y2)) (first | exact ⟨a1, a2, b1, b2⟩ | assumption | exact ⟨by assumption, by assumption, by assumption, by assumption⟩) (first | (go_at_call 51; ((with_reducible refine HQ.out.mono ?_); rintro e wx ⟨rfl, x1, x2, x3, x4, hsec⟩)) | (go_at_call 51; ((with_reducible refine hsec.out.mono ?_); rintro e wy ⟨rfl, y1, y2, y3, y4, hthird⟩)))
              first | (rename_i hK; refine hK _ _ ?_; clear hK) | (rename_i hK _; refine hK _ _ ?_; clear hK) | (rename_i hK _ _; refine hK _ _ ?_; clear hK) | (rename_i hK _ _ _; refine hK _ _ ?_; clear hK)
              go_wp2_with fail
              go_roundw
              case rel => exact ⟨k + 1, by omega, by go_num, hthird.out⟩
              case measure => simp [intOf]; omega
            · obtain rfl : k = P.length := by omega
              obtain ⟨l, hzl, mp⟩ := putsOf_may P HRG.out (by omega)
              have hfin : ∃ X1 X2, Two w p1 j1 t1 m1 0 0 (newS 40) (zP l) false p2 j2 t2 m2 0 0 (newS 40) (zP l) false wr X1 X2 := by
                obtain ⟨X1, X2, hT, -⟩ := hL.ex
                rw [List.take_of_length_le (Nat.le_refl _), List.take_of_length_le (by rw [List.length_reverse]; exact Nat.le_refl _), putsOf_reverse P HND.out, ← hzl] at hT
                exact ⟨X1, X2, hT⟩
              obtain ⟨X1, X2, hT⟩ := hfin
              have HT := Lib.hid hT
              have HMP := Lib.hid mp
              have hcm := commitN hT.a mp
              obtain ⟨cc, hcc⟩ : ∃ cc : Int, (if l = [] then 0 else 1) = cc := ⟨_, rfl⟩
              rw [hcc] at hcm
              have HCC := Lib.hid hcc
              have HCM := Lib.hid hcm
              clear hT mp hL hzl hcm hcc
              go_wp2_with fail
              refine HCM.out.mono ?_
              rintro e w5 ⟨s5, g5, h5, rfl, ha5, hk5, hd5, hn5, ho5⟩
              have HT5 := Lib.hid (HT.out.stepA ha5 (fun k a b c d => hk5 k a b c d))
              have HO5 := Lib.hid ho5
              have HN5 := Lib.hid hn5
              have HD5 := Lib.hid hd5
              have hcm := commitN HT5.out.b HMP.out
              rw [HCC.out] at hcm
              have HCM2 := Lib.hid hcm
              clear ha5 hk5 hd5 hn5 ho5 hcm
              go_wp2_with fail
              refine HCM2.out.mono ?_
              rintro e w6 ⟨s6, g6, h6, rfl, ha6, hk6, hd6, hn6, ho6⟩
              have HT6 := Lib.hid (HT5.out.swap.stepA ha6 (fun k a b c d => hk6 k a b c d)).swap
              have HO6 := Lib.hid ho6
              have HN6 := Lib.hid hn6
              have HD6 := Lib.hid hd6
              have hsa := sectors8_any HT6.out.a.j.dev HT6.out.a.j.ok.hard (by decide) HD5.out
              rw [allL_congr (f' := h5) (fun i hi => HN5.out i hi)] at hsa
              have HSA := Lib.hid hsa
              clear ha6 hk6 hd6 hn6 ho6 hsa
              have ecc : (cc == cc) = true := by simp
              go_wp2_with fail
              refine HSA.out.mono ?_
              rintro e w7 ⟨v7, rfl, ht7⟩
              have HT7 := Lib.hid (HT6.out.take ht7.below)
              have HA7 := Lib.hid ht7.at
              have hsb := sectors8_any HT7.out.b.j.dev HT7.out.b.j.ok.hard (by decide) HD6.out
              rw [allL_congr (f' := h6) (fun i hi => HN6.out i hi)] at hsb
              have HSB := Lib.hid hsb
              clear ht7 hsb
              go_wp2_with fail
              refine HSB.out.mono ?_
              rintro e w8 ⟨v8, rfl, ht8⟩
              have HT8 := Lib.hid (HT7.out.take ht8.below)
              have ho := outside8_yes (HA7.out.keep (fun k _ h => ht8.below.block k h)) ht8.at (by rw [allL_length, allL_length]) (by rw [allL_length]; decide) (fun i hi hn => by
                rw [allL_length] at hi
                rw [allL_get _ _ _ hi, allL_get _ _ _ hi, HO5.out i ⟨hi, by omega⟩, HO6.out i ⟨hi, by omega⟩])
              have HO := Lib.hid ho
              clear ht8 ho
              go_wp2_with fail
              refine HO.out.mono ?_
              rintro e w9 ⟨rfl, hB9⟩
              have HB9 := Lib.hid (bt HT8.out.a.j.dev.below hB9)
              clear hB9
              go_wp2_with fail
              refine (alive08_any _).mono ?_
              rintro e w10 ⟨rfl, hB10⟩
              have HB10 := Lib.hid (bt HB9.out hB10)
              clear hB10
              go_wp2_with fail
              go_ret
              exact ⟨rfl, HB10.out⟩
  · clear hc
    go_wp2_with fail
    refine (alive08_any _).mono ?_
    rintro e w1 ⟨rfl, hB⟩
    go_wp2_with fail
    go_ret
    exact ⟨rfl, hB⟩
end
end Go.Proofs.Ytjjphcnoegaimaa
