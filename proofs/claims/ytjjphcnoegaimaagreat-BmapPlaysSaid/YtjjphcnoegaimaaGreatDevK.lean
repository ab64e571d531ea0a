/- package dev: keep, Back, Fuse. -/
import Derived.Test.YtjjphcnoegaimaaGreatDevW
import Derived.Test.YtjjphcnoegaimaaGreatShelf
namespace Go.Proofs.YtjjphcnoegaimaaGreat
open Go.RowKit Go.Maps
set_option maxRecDepth 20000
attribute [local go_sem ↓] field_row

theorem ownsRow_set {w : World} {e : TypeId} {n : Nat} {xs : List Value} {g c : Nat} (h : w.ownsRow 0 e 1 (.slice (some ⟨g, 0, none⟩) n c) n xs) (i : Nat) (u : Value) : (w.setCell ⟨g, i, none⟩ u).ownsRow 0 e 1 (.slice (some ⟨g, 0, none⟩) n c) n (xs.set i u) := by
  obtain ⟨hlen, hrow⟩ := h
  refine ⟨by simpa using hlen, ?_⟩
  rcases hrow with ⟨h', _⟩ | ⟨g', c', cur, hv, h0, hh, hnc, hcm, hcs, hct⟩
  · cases h'
  · cases hv
    refine .inr ⟨g, c, cur.setIfInBounds i u, rfl, h0, blk_here hh i u, hnc, hcm, by simpa using hcs, ?_⟩
    rw [Array.toList_setIfInBounds, ← hct, List.take_set]
theorem ownsRow_base {w : World} {b : Nat} {e : TypeId} {size : Nat} {v : Value} {n : Nat} {xs : List Value} (h : w.ownsRow b e size v n xs) : w.ownsRow 0 e size v n xs := by
  obtain ⟨hlen, hrow⟩ := h
  refine ⟨hlen, ?_⟩
  rcases hrow with h' | ⟨g, c, cur, hv, h0, hr⟩
  · exact .inl h'
  · exact .inr ⟨g, c, cur, hv, Nat.zero_le _, hr⟩

section
variable {W W' : World} {p hb hc m : Nat} {L : List (Int × Value)} {s : DS}
theorem mget_del_some {k i : Int} {v : Value} (hn : (L.map Prod.fst).Nodup) (h : mget k (mdel i L) = some v) : k ≠ i ∧ mget k L = some v := by
  rw [mget_del hn] at h
  split at h
  · cases h
  · rename_i hk; exact ⟨hk, h⟩
theorem mdel_mem' {i : Int} (hn : (L.map Prod.fst).Nodup) {x : Int × Value} (hx : x ∈ mdel i L) : x.1 ≠ i ∧ x ∈ L := by
  have h1 : x.1 ∈ (mdel i L).map Prod.fst := List.mem_map.2 ⟨x, hx, rfl⟩
  rw [mdel_keys hn] at h1
  exact ⟨by simpa using (List.mem_filter.1 h1).2, mdel_mem x hx⟩

/-- A sector's row is struck. -/
theorem DevAt.del (h : DevAt W p hb hc m L s) (i : Int) (hm : MapS W' m .i64 (mdel i L)) (hk : ∀ k, k < W.heap.size → k ≠ m → W'.heap[k]? = W.heap[k]?) :
    DevAt W' p hb hc m (mdel i L) { s with rows := setR s.rows i [] } := by
  refine ⟨(hk p (h.lt (.inl rfl)) (fun e => h.pm e.symm)).trans h.obj, ownsRow_of_block h.hard (fun k e => by cases e; exact hk hb (h.lt (.inr (.inl rfl))) h.hm), hm, fun x hx => ?_, fun k hkn => ?_, fun x hx y hy hxy => ?_, fun x hx => ?_, h.pos⟩
  · obtain ⟨e1, e2⟩ := mdel_mem' h.map.nodup hx
    obtain ⟨g', c', e3, h1, h2, h3⟩ := h.rows x e2
    simp only [setR_other s.rows [] e1]
    refine ⟨g', c', e3, ownsRow_of_block h1 (fun k e => ?_), h2, h3⟩
    cases e
    refine hk _ (ownsRow_lt h1 rfl) ?_
    rintro rfl
    obtain ⟨cur, hb⟩ := ownsRow_type h1 rfl
    obtain ⟨es, c, hb', _⟩ := h.map
    rw [hb'] at hb
    cases hb
  · by_cases hki : k = i
    · subst hki; simp only [setR_same]
    · simp only [setR_other s.rows [] hki]
      refine h.norow k (fun hin => hkn ?_)
      rw [mdel_keys h.map.nodup]
      exact List.mem_filter.2 ⟨hin, by simpa using hki⟩
  · exact h.apart x (mdel_mem' h.map.nodup hx).2 y (mdel_mem' h.map.nodup hy).2 hxy
  · exact h.range x (mdel_mem' h.map.nodup hx).2
theorem dfoot_del {i : Int} (hn : (L.map Prod.fst).Nodup) {k : Nat} (hk : dfoot p hb m (mdel i L) k) : dfoot p hb m L k := by
  rcases hk with h | h | h | ⟨x, hx, e⟩
  · exact .inl h
  · exact .inr (.inl h)
  · exact .inr (.inr (.inl h))
  · exact .inr (.inr (.inr ⟨x, (mdel_mem' hn hx).2, e⟩))
/-- What is durable of a sector is another text. -/
theorem DevAt.hset (h : DevAt W p hb hc m L s) (i : Nat) (b : ByteArray) : DevAt (W.setCell ⟨hb, i, none⟩ (.string b)) p hb hc m L { s with hard := s.hard.set i b } := by
  have hk : ∀ k, k ≠ hb → (W.setCell ⟨hb, i, none⟩ (.string b)).heap[k]? = W.heap[k]? := fun k hk => Below.heap_setCell W _ _ k (by simpa using hk)
  have hs : sv (s.hard.set i b) = (sv s.hard).set i (.string b) := by simp [sv, List.map_set]
  refine ⟨?_, ?_, h.map.of_block (hk m (fun e => h.hm e.symm)), fun x hx => ?_, h.norow, h.apart, ?_, ?_⟩
  · simp only [List.length_set]
    exact (hk p (fun e => h.hp e.symm)).trans h.obj
  · simp only [List.length_set]
    rw [hs]
    exact ownsRow_set h.hard i _
  · obtain ⟨g', c', e3, h1, h2, h3⟩ := h.rows x hx
    refine ⟨g', c', e3, ownsRow_of_block h1 (fun k e => ?_), h2, h3⟩
    cases e
    exact hk _ h3
  · simp only [List.length_set]
    exact h.range
  · simp only [List.length_set]
    exact h.pos
end

/-- A device of which the first k cached writes of a sector were written back. -/
def keepS (s : DS) (i : Nat) (k : Nat) : DS := if k = 0 then s else { s with hard := s.hard.set i ((s.rows i).getD (k - 1) ByteArray.empty), rows := setR s.rows i ((s.rows i).drop k) }

section
variable {w : World} {p : Nat} {F : Nat → Prop} {s : DS}

theorem DvS.refl (h : Dv w p F s) : DvS w p F s w := ⟨h.weak (fun _ hk => .inl hk), Fr.refl _ _, rfl⟩

set_option maxHeartbeats 4000000 in
theorem dev_keep (h : Dv w p F s) (i k : Nat) (hi : i < s.hard.length) (hk : k ≤ (s.rows i).length) (hn : (s.rows i).length ≤ 100000) :
    Calls Tryz.prog 51 #[.pointer (some ⟨p, 0, none⟩), .int .i64 i, .int .i64 k] w fun e w' => e = .returned (.tuple #[]) ∧ DvS w p F (keepS s i k) w' := by
  have h' := h
  obtain ⟨hb, hc, m, L, h, hF⟩ := h
  have h4 := cl_of h.obj 4
  have hlk := h.look i
  rcases Nat.eq_zero_or_pos k with rfl | hpos
  · obtain ⟨v, hro, -⟩ := h.row i
    rw [hro] at hlk
    go_enter Tryz.func51, Tryz.ntmps51
    go_wp2_with fail
    exact bodyPost_ret (results_none rfl _ _ _) rfl ⟨rfl, DvS.refl h'⟩
  · have hr : s.rows i ≠ [] := by intro e; rw [e] at hk; simp at hk; omega
    obtain ⟨g, c, hg, hrow, hghb, hgp, hgm, hgf⟩ := h.row_some hr
    have hro : rowOf L i = .agg #[.slice (some ⟨g, 0, none⟩) (s.rows i).length c] := by rw [rowOf, hg]; rfl
    rw [hro] at hlk
    have hcell := ownsRow_cell hrow rfl (j := k - 1) (u := .string ((s.rows i).getD (k - 1) ByteArray.empty)) (sv_get (hard_get (by omega)))
    have h3 := cl_of h.obj 3
    have hz := h.hset i ((s.rows i).getD (k - 1) ByteArray.empty)
    have hcur : w.cell? ⟨hb, i, none⟩ = some (.string (s.hard.getD i ByteArray.empty)) := h.hardc (hard_get hi)
    have hfz : w.frozen? ⟨hb, i, none⟩ = false := by
      rcases h.hard.2 with ⟨e, _⟩ | ⟨g', c', cur, e, _, hh, _⟩
      · cases e
      · cases e
        exact fz_of hh i
    have hl := h.pos.2
    have hcm : c ≤ maxLen := by
      rcases hrow.2 with ⟨e, _⟩ | ⟨g', c', cur, e, _, _, h1, h2, _⟩
      · cases e
      · cases e; omega
    have hnc : (s.rows i).length ≤ c := by
      rcases hrow.2 with ⟨e, _⟩ | ⟨g', c', cur, e, _, _, h1, h2, _⟩
      · cases e
      · cases e; omega
    unfold maxLen at hcm
    have hkp : keepS s i k = { s with hard := s.hard.set i ((s.rows i).getD (k - 1) ByteArray.empty), rows := setR s.rows i ((s.rows i).drop k) } := by rw [keepS, if_neg (by omega)]
    rw [hkp]
    obtain ⟨j, rfl⟩ : ∃ j, k = j + 1 := ⟨k - 1, by omega⟩
    simp only [Nat.add_sub_cancel] at hcell hz hcur ⊢
    generalize (s.rows i).getD j ByteArray.empty = b at *
    generalize s.hard.getD i ByteArray.empty = b0 at *
    have hgl := h.lt hgf
    have hbl : hb < w.heap.size := h.lt (.inr (.inl rfl))
    rcases Nat.lt_or_ge (j + 1) (s.rows i).length with hlt | hge
    · have hzd : DevAt (w.setCell ⟨hb, i, none⟩ (.string b)).drew p hb hc m L { s with hard := s.hard.set i b } := hz.keep (fun _ _ => rfl)
      have z4 : (w.setCell ⟨hb, i, none⟩ (.string b)).cell? ⟨p, 4, none⟩ = some (.map (some m)) := cl_of hz.obj 4
      have hne : ((j + 1 : Int) == ((s.rows i).length : Int)) = false := by
        have : ¬ ((j + 1 : Int) = ((s.rows i).length : Int)) := by omega
        simpa using this
      have q1 : (0 : Int) ≤ ((j + 1 : Nat) : Int) := by omega
      have q2 : ((j + 1 : Nat) : Int) ≤ ((s.rows i).length : Int) := by omega
      have q3 : ((s.rows i).length : Int) ≤ (c : Int) := by omega
      have q4 : (j : Int) + 1 ≤ ((s.rows i).length : Int) := by omega
      have q6 : ¬ c = j + 1 := by omega
      have q5 : (0 : Int) ≤ (j : Int) + 1 := by omega
      go_enter Tryz.func51, Tryz.ntmps51
      go_wp2_with fail
      go_region
      go_wp2_with fail
      have hrow2 : (w.setCell ⟨hb, i, none⟩ (.string b)).drew.ownsRow 0 9 1 (.slice (some ⟨g, 0, none⟩) (s.rows i).length c) (s.rows i).length (sv (s.rows i)) := ownsRow_of_block hrow (fun k e => by cases e; exact Below.heap_setCell w _ _ g (by simpa using hghb))
      generalize hWZ : (w.setCell ⟨hb, i, none⟩ (.string b)).drew = wz at *
      have hf : Fr F w wz := by
        rw [← hWZ]
        exact ((Fr.refl F w).setCell _ (.inr (hF hb (.inr (.inl rfl)))) _).grown ⟨rfl, rfl, rfl, Nat.le_refl _, fun _ _ _ => rfl⟩ (row := none) (by simp)
      clear hWZ
      have hgc : ∀ W, Below wz.heap.size wz W → ∀ x, x < ((s.rows i).drop (j + 1)).length → W.cell? ⟨g, j + 1 + x, none⟩ = some (.string (((s.rows i).drop (j + 1)).getD x ByteArray.empty)) := by
        intro W hB x hx
        refine ownsRow_cell (ownsRow_of_block hrow2 (fun k e => hB.block k (ownsRow_lt hrow2 e))) rfl (sv_get ?_)
        have hx' : j + 1 + x < (s.rows i).length := by simp at hx; omega
        show (s.rows i)[j + 1 + x]? = _
        rw [List.getElem?_eq_getElem hx', List.getD_eq_getElem?_getD, List.getElem?_drop, List.getElem?_eq_getElem hx']
        rfl
      have hwf : (Lit.int .i64 i).wf = true := by
        simp [Lit.wf, IntKind.min, IntKind.signed, IntKind.bits]
        omega
      have hput : ∀ W, Below wz.heap.size wz W → ∀ v, ∃ w2, (Instr.mapUpdate 114 (.map (some m)) (.int .i64 i) v).run Tryz.prog W = .ok () w2 ∧ MapS w2 m .i64 (mput i v L) ∧ W.grownBy w2 (some m) :=
        fun W hB v => (hzd.below hB).map.put (t := 114) Tryz.underlying114 Tryz.underlying3 i hwf v
      have hz4 : ∀ W, Below wz.heap.size wz W → W.cell? ⟨p, 4, none⟩ = some (.map (some m)) := fun W hB => cl_of (hzd.below hB).obj 4
      have hc4 : ∀ W W', Below wz.heap.size wz W → W.grownBy W' (some m) → W'.cell? ⟨p, 4, none⟩ = some (.map (some m)) := by
        intro W W' hB hg
        refine (hg.cell_far ⟨p, 4, none⟩ ?_ ?_).trans (hz4 W hB)
        · have := hB.size
          have := hzd.lt (.inl rfl)
          show p < _
          omega
        · intro e
          exact hzd.pm (Option.some.inj e).symm
      have hnp : 0 < (s.rows i).length - (j + 1) := by omega
      have hnp : 0 < (s.rows i).length - (j + 1) := by omega
      have HG := Lib.hid hgc
      have hclone : ∀ W, Below wz.heap.size wz W → Calls Tryz.prog 84 #[.slice (some ⟨g, j + 1, none⟩) ((s.rows i).length - (j + 1)) (c - (j + 1))] W fun e w3 => ∃ g2 c2, e = .returned (.slice (some ⟨g2, 0, none⟩) ((s.rows i).length - (j + 1)) c2) ∧ w3.ownsRow W.heap.size 9 1 (.slice (some ⟨g2, 0, none⟩) ((s.rows i).length - (j + 1)) c2) ((s.rows i).length - (j + 1)) (sv ((s.rows i).drop (j + 1))) ∧ Below W.heap.size W w3 := by
        intro W hB
        have h1 : (s.rows i).length - (j + 1) ≤ ((s.rows i).drop (j + 1)).length := by simp
        have h2 : ((s.rows i).length - (j + 1)) * 16 ≤ 140737488355328 := by omega
        have h3 := hgc W hB
        refine (Tryz.slices_Clone_string g (j + 1) ((s.rows i).length - (j + 1)) (c - (j + 1)) ((s.rows i).drop (j + 1)) W h1 h2 h3).mono ?_
        rintro e w3 ⟨v', rfl, hown, hne', hB3⟩
        obtain ⟨g2, c2, rfl, hb2, hl2⟩ := hown.form hnp
        refine ⟨g2, c2, rfl, ?_, hB3⟩
        rw [List.take_of_length_le (by simp)] at hown
        exact hown
      have HCl := Lib.hid hclone
      clear hclone
      have HP := Lib.hid hput
      have HZ := Lib.hid hz4
      have HC := Lib.hid hc4
      clear hgc hput hz4 hc4
      have Bz : Below wz.heap.size wz wz := Below.refl _ _
      have z5 := HZ.out _ Bz.drew
      go_region_held3 (fun W => W.cell? ⟨p, 4, none⟩ = some (.map (some m))) (first | assumption | exact z5) (first | (go_at_call 84; refine (HCl.out _ Bz.drew).mono ?_; rintro e w3 ⟨g2, c2, rfl, hown, hB3⟩; have B3 := bt Bz.drew hB3; have c3 := HZ.out _ B3; obtain ⟨w4, hr4, hm4, hg4⟩ := HP.out _ B3 (.agg #[.slice (some ⟨g2, 0, none⟩) ((s.rows i).length - (j + 1)) c2]); have c4 := HC.out _ _ B3 hg4))
      all_goals
        first | (rename_i hK; refine hK _ _ ?_; clear hK) | (rename_i hK _; refine hK _ _ ?_; clear hK) | (rename_i hK _ _; refine hK _ _ ?_; clear hK) | skip
        go_wp2_with fail
        have hlen : ((s.rows i).drop (j + 1)).length = (s.rows i).length - (j + 1) := by simp
        have hg3 : wz.heap.size ≤ g2 := by
          rcases hown.2 with ⟨e, _⟩ | ⟨g', c', cur, e, h0, _⟩
          · cases e
          · cases e
            exact h0
        have hg3l : g2 < w3.heap.size := ownsRow_lt (ownsRow_base hown) rfl
        have hzl : ∀ k, dfoot p hb m L k → k < wz.heap.size := fun k hk => hzd.lt hk
        have hown4 : w4.ownsRow 0 9 1 (.slice (some ⟨g2, 0, none⟩) ((s.rows i).drop (j + 1)).length c2) ((s.rows i).drop (j + 1)).length (sv ((s.rows i).drop (j + 1))) := by
          rw [hlen]
          refine ownsRow_of_block (ownsRow_base hown) (fun k e => ?_)
          cases e
          refine hg4.block g2 hg3l ?_
          have := hzl m (.inr (.inr (.inl rfl)))
          intro e
          cases e
          omega
        have hfin := hzd.add (i := i) (by simpa using hi) (l := (s.rows i).drop (j + 1)) (by intro e; rw [e] at hlen; simp at hlen; omega) hown4 (by rw [hlen]; exact hm4) (.inr hg3) (by have := hzl hb (.inr (.inl rfl)); omega) (fun k hk hkm hkg _ => (hg4.block k (Nat.lt_of_lt_of_le hk B3.size) (by simpa using hkm)).trans (B3.block k hk))
        have hff : Fr F w w4 := (hf.trans (Fr.of_below B3)).grown hg4 (fun k e => by cases e; exact .inr (hF _ (.inr (.inr (.inl rfl)))))
        refine bodyPost_end (results_none rfl _ _ _) rfl ⟨rfl, DvS.of h hfin (fun k hk => ?_) hff⟩
        rcases hk with rfl | rfl | rfl | ⟨x, hx, e⟩
        · exact .inl (hF _ (.inl rfl))
        · exact .inl (hF _ (.inr (.inl rfl)))
        · exact .inl (hF _ (.inr (.inr (.inl rfl))))
        · have hgg := mget_of_mem hfin.map.nodup (show (x.1, x.2) ∈ _ from hx)
          rw [mget_put] at hgg
          split at hgg
          · simp only [Option.some.injEq] at hgg
            rw [← hgg] at e
            have e : g2 = k := Option.some.inj (show some g2 = some k from e)
            exact .inr (by have := hf.size; omega)
          · exact .inl (hF k (.inr (.inr (.inr ⟨x, mget_mem hgg, e⟩))))
    · have hjn : (s.rows i).length = j + 1 := by omega
      have hdr : (s.rows i).drop (j + 1) = [] := List.drop_eq_nil_of_le (by omega)
      rw [hdr]
      rw [hjn] at hlk
      have hzd : DevAt (w.setCell ⟨hb, i, none⟩ (.string b)).drew p hb hc m L { s with hard := s.hard.set i b } := hz.keep (fun _ _ => rfl)
      obtain ⟨w2, hr2, hm2, hg2⟩ := hzd.map.del (P := Tryz.prog) (t := 114) Tryz.underlying114 Tryz.underlying3 i #[114, 3] rfl 0
      have z4 : (w.setCell ⟨hb, i, none⟩ (.string b)).cell? ⟨p, 4, none⟩ = some (.map (some m)) := cl_of hz.obj 4
      go_enter Tryz.func51, Tryz.ntmps51
      go_wp2_with fail
      go_region
      go_wp2_with fail
      have hpF : F hb := hF hb (.inr (.inl rfl))
      refine bodyPost_ret (results_none rfl _ _ _) rfl ⟨rfl, DvS.of h (hzd.del i hm2 (fun k hk hkm => hg2.block k hk (by simpa using hkm))) (fun k hk => .inl (hF k (dfoot_del h.map.nodup hk))) ?_⟩
      have hf : Fr F w (w.setCell ⟨hb, i, none⟩ (.string b)).drew := ((Fr.refl F w).setCell _ (.inr hpF) _).grown ⟨rfl, rfl, rfl, Nat.le_refl _, fun _ _ _ => rfl⟩ (row := none) (by simp)
      exact hf.grown hg2 (fun k e => by cases e; exact .inr (hF _ (.inr (.inr (.inl rfl)))))

/-- A device whose fuse was set. -/
def fuseS (s : DS) (n : Int) : DS := { s with armed := true, left := n, dead := s.dead || decide (n = 0) }
set_option maxHeartbeats 400000 in
theorem fuse_no (_ : Dv w p F s) (n : Int) (hn : n < 0) : Calls Tryz.prog 19 #[.pointer (some ⟨p, 0, none⟩), .int .i64 n] w fun e w' => e = .returned (.int .i64 2) ∧ w = w' := by
  go_enter Tryz.func19, Tryz.ntmps19
  go_wp2_with fail
  go_ret
  exact ⟨rfl, rfl⟩
set_option maxHeartbeats 1000000 in
theorem dev_fuse (h : Dv w p F s) (n : Int) (hn : 0 ≤ n) : Calls Tryz.prog 19 #[.pointer (some ⟨p, 0, none⟩), .int .i64 n] w fun e w' => e = .returned (.int .i64 0) ∧ DvS w p F (fuseS s n) w' := by
  obtain ⟨hb, hc, m, L, h, hF⟩ := h
  have g2 : w.cell? ⟨p, 2, none⟩ = some (.bool s.dead) := cl_of h.obj 2
  have g0 : w.cell? ⟨p, 0, none⟩ = some (.bool s.armed) := cl_of h.obj 0
  have g1 : w.cell? ⟨p, 1, none⟩ = some (.int .i64 s.left) := cl_of h.obj 1
  have f0 := fz_of h.obj 0
  have f1 := fz_of h.obj 1
  have f2 := fz_of h.obj 2
  have d1 : decide (n < 0) = false := decide_eq_false (by omega)
  have fin : ∀ b : Bool, (s.dead || decide (n = 0)) = b → DvS w p F (fuseS s n) (((w.setCell ⟨p, 0, none⟩ (.bool true)).setCell ⟨p, 1, none⟩ (.int .i64 n)).setCell ⟨p, 2, none⟩ (.bool b)) := by
    rintro b rfl
    have hpF : F p := hF p (.inl rfl)
    refine DvS.of h (?_ : DevAt _ p hb hc m L (fuseS s n)) (fun k hk => .inl (hF k hk)) ((((Fr.refl F w).setCell _ (.inr hpF) _).setCell _ (.inr hpF) _).setCell _ (.inr hpF) _)
    exact h.obj' (a := true) (n := n) (d := s.dead || decide (n = 0)) (wr := s.writes) (blk_here (blk_here (blk_here h.obj 0 (.bool true)) 1 (.int .i64 n)) 2 (.bool (s.dead || decide (n = 0)))) (fun k hk hkp => ((Below.heap_setCell _ _ _ k (by simpa using hkp)).trans (Below.heap_setCell _ _ _ k (by simpa using hkp))).trans (Below.heap_setCell w _ _ k (by simpa using hkp)))
  have HF := Lib.hid fin
  clear fin
  cases hdd : s.dead
  · rw [hdd] at g2
    go_enter Tryz.func19, Tryz.ntmps19
    go_wp2_with fail
    go_ret
    exact ⟨rfl, HF.out _ (by rw [hdd]; rfl)⟩
  · rw [hdd] at g2
    go_enter Tryz.func19, Tryz.ntmps19
    go_wp2_with fail
    go_ret
    exact ⟨rfl, HF.out _ (by rw [hdd]; rfl)⟩
end
end Go.Proofs.YtjjphcnoegaimaaGreat
