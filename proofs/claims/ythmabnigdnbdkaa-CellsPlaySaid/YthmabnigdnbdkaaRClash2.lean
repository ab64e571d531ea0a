/- package lunetteref13: Clash. -/
import Derived.Test.YthmabnigdnbdkaaRClash
import Derived.Laws.AppendOwnNone
namespace Go.Proofs.Ythmabnigdnbdkaa
open Go.RowKit
set_option maxRecDepth 100000
set_option linter.unusedSimpArgs false

theorem own_some {W : World} {b : Nat} {e : TypeId} {size : Nat} {v : Value} {n : Nat} {xs : List Value} (h : W.ownsRow b e size v n xs) (hn : 0 < n) : ∃ g c, v = .slice (some ⟨g, 0, none⟩) n c := by
  rcases h.2 with ⟨rfl, h0⟩ | ⟨g, c, cur, rfl, h0, _⟩
  · omega
  · exact ⟨_, _, rfl⟩
theorem own_cap2 {W : World} {b : Nat} {e : TypeId} {size g n c : Nat} {xs : List Value} (h : W.ownsRow b e size (.slice (some ⟨g, 0, none⟩) n c) n xs) : n ≤ c := by
  rcases h.2 with ⟨h0, _⟩ | ⟨g', c', cur, h0, _, _, h1, _⟩
  · cases h0
  · cases h0; exact h1
theorem row_cv {W : World} {b : Nat} {e : TypeId} {size : Nat} {v : Value} {n n' : Nat} {xs xs' : List Value} (hn : n = n') (hx : xs = xs') (h : W.ownsRow b e size v n xs) : W.ownsRow b e size v n' xs' := by
  subst hn hx
  exact h
theorem ints_one (out : List Int) : ∀ u ∈ out.map (Value.int .u64), u.oneCell' = true := by
  intro u hu
  obtain ⟨x, -, rfl⟩ := List.mem_map.1 hu
  rfl
set_option maxHeartbeats 16000000 in
theorem rclash_any {w : World} {q : Nat} {vL vS : Value} {on : Bool} {L : List (Int × Int)} {S : List Touch} (h : RefAt w q vL vS on L S) (hn : Few S) (a b : Int) (hab : a ≠ b) :
    Calls Try.prog 31 #[.pointer (some ⟨q, 0, none⟩), .int .i64 a, .int .i64 b] w fun e w' => ∃ v out, e = .returned v ∧ RP S a b S.length out ∧ out.length ≤ S.length ∧ w'.ownsRow w.heap.size 30 1 v out.length (out.map (Value.int .u64)) ∧ Below w.heap.size w w' := by
  obtain ⟨ao, cap, hv, hcs⟩ := own_form h.rowS
  have hS := hn.out
  have c1 := cl_of h.obj 1
  have hq := h.lt (.inl rfl)
  rw [hv] at c1
  have hkeep : ∀ W, Fr (fun _ => False) w W → W.cell? ⟨q, 1, none⟩ = some (.slice ao S.length cap) := fun W hf => (hf.cell (p := ⟨q, 1, none⟩) hq id).trans c1
  have HK := Lib.hid hkeep
  have HCS := Lib.hid hcs
  have HC : Hid (∀ (c : Int) (W : World) (r : Bool), Fr (fun _ => False) w W → (r = true ↔ rcl S a b c) → Calls Try.prog 61 #[.pointer (some ⟨q, 0, none⟩), .int .i64 a, .int .i64 b, .int .u64 c] W fun e w' => e = .returned (.bool r) ∧ Fr (fun _ => False) W w') := Lib.hid (fun c W r hf hr => clashes_any (h.fr hf fun _ _ => id) hn a b c r hr)
  obtain ⟨i0, hi, hz0, hz1, hz2⟩ := info_parts Try.infoKey
  have e0 : (a == b) = false := by simpa using hab
  clear hkeep hcs hv hn h hab
  go_enter Try.func31, Try.ntmps31
  go_wp2_with fail
  go_loopw [7, 8] (fun v7 v8 wr => ∃ (i : Nat) (out : List Int), i ≤ S.length ∧ v8 = .int .i64 i ∧ wr.ownsRow w.heap.size 30 1 v7 out.length (out.map (Value.int .u64)) ∧ Below w.heap.size w wr ∧ Hid (RP S a b i out ∧ out.length ≤ i)) (fun _ v8 _ => S.length - (intOf v8).toNat)
  case atStart => exact ⟨0, [], by omega, rfl, World.ownsRow_nil _ _ _ _, Below.refl _ _, Lib.hid ⟨RP.start S a b, Nat.zero_le _⟩⟩
  case round =>
    obtain ⟨i, out, hi', rfl, hro, hB, HRP⟩ := hrel
    have f1 := HK.out _ (Fr.of_below hB)
    obtain ⟨ao2, cap2, rfl, hoc⟩ := own_form (ownsRow_zero hro)
    by_cases hlt : i < S.length
    · obtain ⟨g, rfl, -, hg, hc⟩ := HCS.out (by omega)
      have x1 := ((Fr.of_below (S := fun _ => False) hB).cell (p := ⟨g, i * 3 + 1, none⟩) hg id).trans (hc _ _ (touches_get S i hlt).2.1)
      have HOC := Lib.hid hoc
      have HAS := Lib.hid (HRP.out.1.has hlt)
      have NO := Lib.hid (HRP.out.1.no hlt)
      have INS := Lib.hid (fun hc => HRP.out.1.ins hlt hc)
      have SRT := Lib.hid HRP.out.1.srt
      have hol := HRP.out.2
      have CL := Lib.hid (HC.out S[i].cell)
      clear hc hoc HRP HC
      generalize S[i].cell = c at *
      go_wp2_with fail
      obtain ⟨wo, rfl⟩ : ∃ wo : World, wo = wr := ⟨_, rfl⟩
      go_loopw [10] (fun v10 wr => ∃ k : Nat, k ≤ out.length ∧ v10 = .int .i64 k ∧ wr = wo ∧ Hid (∀ x ∈ out.take k, x < c)) (fun v10 _ => out.length - (intOf v10).toNat)
      case atStart => exact ⟨0, by omega, rfl, by first | rfl | trivial, Lib.hid (by simp)⟩
      case round =>
        obtain ⟨k, hk, rfl, rfl, HTK⟩ := hrel
        by_cases hkl : k < out.length
        · obtain ⟨g2, rfl, -, hg2, hc2⟩ := HOC.out (by omega)
          have y1 := hc2 k (.int .u64 out[k]) (by simp [hkl])
          have HMEM : Hid (out[k] ∈ out) := Lib.hid (List.getElem_mem hkl)
          have HTS : Hid (∀ x ∈ out.take (k + 1), x ∈ out.take k ∨ x = out[k]) := Lib.hid (fun x hx => by rw [take_snoc _ _ hkl, List.mem_append, List.mem_singleton] at hx; exact hx)
          have HDR : Hid (c < out[k] → ∀ x ∈ out.drop k, c < x) := Lib.hid (fun hlt x hx => by
            have hs := SRT.out
            rw [← List.take_append_drop k out, List.pairwise_append] at hs
            have hs2 := hs.2.1
            rw [List.drop_eq_getElem_cons hkl] at hs2 hx
            rw [List.pairwise_cons] at hs2
            rcases List.mem_cons.1 hx with rfl | hx
            · exact hlt
            · have := hs2.1 x hx; omega)
          clear hc2
          generalize out[k] = y at *
          by_cases hyc : y < c
          · have HTK2 : Hid (∀ x ∈ out.take (k + 1), x < c) := Lib.hid (fun x hx => by
              rcases HTS.out x hx with h | h
              · exact HTK.out x h
              · omega)
            go_wp2_with fail
            go_roundw
            case rel => exact ⟨k + 1, by omega, by go_num, by first | rfl | trivial, HTK2⟩
            case measure => simp [intOf]; omega
          · by_cases hy2 : y = c
            · have HR : Hid (RP S a b (i + 1) out) := Lib.hid (HAS.out (by rw [← hy2]; exact HMEM.out))
              have e2 : (y == c) = true := by simpa using hy2
              clear hy2
              go_wp2_with fail
              go_roundw
              case rel => exact ⟨i + 1, out, by omega, by go_num, hro, hB, Lib.hid ⟨HR.out, by omega⟩⟩
              case measure => simp [intOf]; omega
            · have e2 : (y == c) = false := by simpa using hy2
              have HD := Lib.hid (HDR.out (by omega))
              by_cases hr : rcl S a b c
              rotate_left
              · have HR : Hid (RP S a b (i + 1) out) := Lib.hid (NO.out hr)
                go_wp2_with fail
                refine (CL.out _ false (Fr.of_below hB) ⟨fun e => (by cases e), fun e => absurd e hr⟩).mono ?_
                rintro e w1 ⟨rfl, hf1⟩
                have f2 := HK.out _ ((Fr.of_below hB).trans hf1)
                have hB1 : Below w.heap.size w w1 := Fr.step hB hf1 hB.size (fun _ h => h.elim)
                go_wp2_with fail
                go_roundw
                case rel => exact ⟨i + 1, out, by omega, by go_num, ownsRowB_of_block hro (fun j hj => hf1.block j (ownsRowB_ge hro hj).2 id), hB1, Lib.hid ⟨HR.out, by omega⟩⟩
                case measure => simp [intOf]; omega
              · have HR : Hid (RP S a b (i + 1) (out.take k ++ [c] ++ out.drop k)) := Lib.hid (INS.out hr k HTK.out HD.out)
                go_wp2_with fail
                refine (CL.out _ true (Fr.of_below hB) ⟨fun _ => hr, fun _ => rfl⟩).mono ?_
                rintro e w1 ⟨rfl, hf1⟩
                have f2 := HK.out _ ((Fr.of_below hB).trans hf1)
                have hB1 : Below w.heap.size w w1 := Fr.step hB hf1 hB.size (fun _ h => h.elim)
                have hr1 : w1.ownsRow w.heap.size 30 1 (.slice (some ⟨g2, 0, none⟩) out.length cap2) out.length (out.map (Value.int .u64)) := ownsRowB_of_block hro (fun j hj => hf1.block j (ownsRowB_ge hro hj).2 id)
                have hgl : g2 < w1.heap.size := (ownsRowB_ge hr1 (k := g2) rfl).2
                have hcap2 := own_cap2 hr1
                have hnws : ∀ (W2 : World), W2.heap[g2]? = w1.heap[g2]? → ∀ j u, (out.map (Value.int .u64))[j]? = some u → W2.cell? ⟨g2, j, none⟩ = some u := fun W2 e j u hj => (World.cell?_of_block (w := w1) e).trans (ownsRow_cell (ownsRow_zero hr1) rfl hj)
                have ht1 : ∀ j u, ((out.map (Value.int .u64)).take k)[j]? = some u → w1.cell? ((⟨g2, 0, none⟩ : Addr).add j) = some u := fun j u hj => by
                  rw [Addr.add_lit, Nat.zero_add]
                  refine hnws w1 rfl j u ?_
                  rw [List.getElem?_take] at hj
                  split at hj
                  · exact hj
                  · cases hj
                have hd1 : ∀ (W2 : World), W2.heap[g2]? = w1.heap[g2]? → ∀ j u, ((out.map (Value.int .u64)).drop k)[j]? = some u → W2.cell? ((⟨g2, k, none⟩ : Addr).add j) = some u := fun W2 e j u hj => by
                  rw [Addr.add_lit]
                  refine hnws W2 e (k + j) u ?_
                  rw [List.getElem?_drop] at hj
                  exact hj
                have HD1 := Lib.hid hd1
                have hone1 : ∀ u ∈ (out.map (Value.int .u64)).take k, u.oneCell' = true := fun u hu => ints_one out u (List.mem_of_mem_take hu)
                have hone3 : ∀ u ∈ (out.map (Value.int .u64)).drop k, u.oneCell' = true := fun u hu => ints_one out u (List.mem_of_mem_drop hu)
                have hlt1 : ((out.map (Value.int .u64)).take k).length = k * 1 := by rw [List.length_take, List.length_map]; omega
                have hld3 : ((out.map (Value.int .u64)).drop k).length = (out.length - k) * 1 := by rw [List.length_drop, List.length_map]; omega
                clear hnws hd1
                have hnn : w1.ownsRow w1.heap.size 30 1 (.slice none 0 0) 0 [] := World.ownsRow_nil _ _ _ _
                have hone2 : ∀ u ∈ [Value.int .u64 c], u.oneCell' = true := by simp [Value.oneCell']
                have h631 : 0 + k ≤ maxLen := by unfold maxLen; omega
                have hby1 : (0 + k) * 8 ≤ 140737488355328 := by omega
                have h632 : k + 1 ≤ maxLen := by unfold maxLen; omega
                have hby2 : (k + 1) * 8 ≤ 140737488355328 := by omega
                have h633 : k + 1 + (out.length - k) ≤ maxLen := by unfold maxLen; omega
                have hby3 : (k + 1 + (out.length - k)) * 8 ≤ 140737488355328 := by omega
                have hbs1 : w1.heap.size ≤ w1.heap.size := Nat.le_refl _
                have i1 : (0 : Int) ≤ (k : Int) := by omega
                have i2 : (k : Int) ≤ (cap2 : Int) := by omega
                have i3 : (k : Int) ≤ (out.length : Int) := by omega
                have HB2 : Hid (Below w1.heap.size w1 w1) := Lib.hid (Below.refl _ _)
                go_wp2_with (first | (at_builtin; refine wpList_append_own _ rfl _ _ 33 rfl w1.heap.size 30 i0 (.int .u64 0) 1 8 Try.underlying33 hi hz0 hz1 hz2 rfl (by decide) _ 0 [] rfl hnn ⟨g2, 0, none⟩ k _ ((out.map (Value.int .u64)).take k) rfl hlt1 ht1 hone1 h631 hby1 hbs1 ?_; intro v1 w3 hown1a hgrow1 _; have hown1 := row_cv (Nat.zero_add k) (List.nil_append _) hown1a; have B3 := HB2.out.grown hgrow1 HB2.out.size (fun k e => by cases e); have B4 := bal B3 (.cells #[.int .u64 c] 30); have hbs2 : w1.heap.size ≤ (w3.alloc (.cells #[.int .u64 c] 30)).heap.size := B4.size) | (at_builtin; refine wpList_append_own _ rfl _ _ 33 rfl w1.heap.size 30 i0 (.int .u64 0) 1 8 Try.underlying33 hi hz0 hz1 hz2 rfl (by decide) _ k ((out.map (Value.int .u64)).take k) rfl (hown1.alloc _) ⟨w3.heap.size, 0, none⟩ 1 1 [.int .u64 c] rfl rfl (World.news_of_block (hp_new _ _ rfl)) hone2 h632 hby2 hbs2 ?_; intro v' w5 hown' hgrow _; have B5 := B4.grown hgrow B4.size (fun k e => (ownsRowB_ge hown1 e).1); obtain ⟨g', cap', rfl⟩ := ownsRow_succ hown'; have hd3 : ∀ (j : Nat) (u : Value), ((out.map (Value.int .u64)).drop k)[j]? = some u → w5.cell? ((⟨g2, k, none⟩ : Addr).add j) = some u := HD1.out w5 (B5.block g2 hgl); have hbs3 := B5.size) | (at_builtin; refine wpList_append_own _ rfl _ _ 33 rfl w1.heap.size 30 i0 (.int .u64 0) 1 8 Try.underlying33 hi hz0 hz1 hz2 rfl (by decide) (.slice (some ⟨g', 0, none⟩) (k + 1) cap') (k + 1) ((out.map (Value.int .u64)).take k ++ [.int .u64 c]) rfl hown' ⟨g2, k, none⟩ (out.length - k) _ ((out.map (Value.int .u64)).drop k) rfl hld3 hd3 hone3 h633 hby3 hbs3 ?_; intro v7 w7 hown7 hgrow7 _; have B7 := B5.grown hgrow7 B5.size (fun k e => (ownsRowB_ge hown' e).1); obtain ⟨g7, cap7, rfl⟩ : ∃ g7 cap7, v7 = .slice (some ⟨g7, 0, none⟩) (k + 1 + (out.length - k)) cap7 := own_some hown7 (by omega)))
                go_roundw
                case rel => exact ⟨i + 1, out.take k ++ [c] ++ out.drop k, by omega, by go_num, ownsRow_base (row_cv (by simp; omega) (by simp) hown7) hB1.size, hB1.trans (B7.mono hB1.size), Lib.hid ⟨HR.out, by simp; omega⟩⟩
                case measure => simp [intOf]; omega
        · by_cases hr : rcl S a b c
          rotate_left
          · have HR : Hid (RP S a b (i + 1) out) := Lib.hid (NO.out hr)
            go_wp2_with fail
            refine (CL.out _ false (Fr.of_below hB) ⟨fun e => (by cases e), fun e => absurd e hr⟩).mono ?_
            rintro e w1 ⟨rfl, hf1⟩
            have f2 := HK.out _ ((Fr.of_below hB).trans hf1)
            have hB1 : Below w.heap.size w w1 := Fr.step hB hf1 hB.size (fun _ h => h.elim)
            go_wp2_with fail
            go_roundw
            case rel => exact ⟨i + 1, out, by omega, by go_num, ownsRowB_of_block hro (fun j hj => hf1.block j (ownsRowB_ge hro hj).2 id), hB1, Lib.hid ⟨HR.out, by omega⟩⟩
            case measure => simp [intOf]; omega
          · rcases hro.2 with ⟨e, hout⟩ | ⟨g2, cap2', cur, e, _⟩
            · obtain ⟨rfl, -, rfl⟩ : ao2 = none ∧ out.length = 0 ∧ cap2 = 0 := by simp only [Value.slice.injEq] at e; exact e
              have hout : out = [] := List.eq_nil_of_length_eq_zero hout
              · have HR : Hid (RP S a b (i + 1) (out.take k ++ [c] ++ out.drop k)) := Lib.hid (INS.out hr k HTK.out (by rw [List.drop_eq_nil_of_le (by omega)]; simp))
                subst hout
                go_wp2_with fail
                refine (CL.out _ true (Fr.of_below hB) ⟨fun _ => hr, fun _ => rfl⟩).mono ?_
                rintro e w1 ⟨rfl, hf1⟩
                have f2 := HK.out _ ((Fr.of_below hB).trans hf1)
                have hB1 : Below w.heap.size w w1 := Fr.step hB hf1 hB.size (fun _ h => h.elim)
                obtain rfl : k = 0 := by simpa using hk
                have hnn : w1.ownsRow w1.heap.size 30 1 (.slice none 0 0) 0 [] := World.ownsRow_nil _ _ _ _
                have hone : ∀ u ∈ [Value.int .u64 c], u.oneCell' = true := by simp [Value.oneCell']
                have h63 : 0 + 1 ≤ maxLen := by decide
                have hby : (0 + 1) * 8 ≤ 140737488355328 := by decide
                have hsz2 : w1.heap.size ≤ (w1.alloc (.cells #[.int .u64 c] 30)).heap.size := by simp
                have hnn2 : (w1.alloc (.cells #[.int .u64 c] 30)).ownsRow w1.heap.size 30 1 (.slice none 0 0) 0 [] := World.ownsRow_nil _ _ _ _
                have HB3 := Lib.hid (bal (Below.refl w1.heap.size w1) (.cells #[.int .u64 c] 30))
                go_wp2_with (first | (at_builtin; refine wpList_append_own_none rfl _ _ 33 rfl w1.heap.size 30 i0 1 Try.underlying33 hi _ 0 [] rfl hnn rfl ?_) | (at_builtin; refine wpList_append_own _ rfl _ _ 33 rfl w1.heap.size 30 i0 (.int .u64 0) 1 8 Try.underlying33 hi hz0 hz1 hz2 rfl (by decide) _ 0 [] rfl hnn2 ⟨w1.heap.size, 0, none⟩ 1 1 [.int .u64 c] rfl rfl (World.news_of_block (hp_new _ _ rfl)) hone h63 hby hsz2 ?_; intro v' w5 hown' hgrow _; have B5 := HB3.out.grown hgrow HB3.out.size (fun k e => by cases e); obtain ⟨g', cap', rfl⟩ := ownsRow_succ hown') | (at_builtin; refine wpList_append_own_none rfl _ _ 33 rfl w1.heap.size 30 i0 1 Try.underlying33 hi _ (0 + 1) ([] ++ [.int .u64 c]) rfl (by assumption) rfl ?_))
                go_roundw
                case rel => exact ⟨i + 1, [c], by omega, by go_num, ownsRow_base (row_cv (by simp) (by simp) hown') hB1.size, hB1.trans (B5.mono hB1.size), Lib.hid ⟨HR.out, by simp⟩⟩
                case measure => simp [intOf]; omega
            · obtain ⟨rfl, rfl⟩ : ao2 = some ⟨g2, 0, none⟩ ∧ cap2 = cap2' := by simp only [Value.slice.injEq] at e; exact ⟨e.1, e.2.2⟩
              clear e
              by_cases hcap : cap2 = k
              · have HR : Hid (RP S a b (i + 1) (out.take k ++ [c] ++ out.drop k)) := Lib.hid (INS.out hr k HTK.out (by rw [List.drop_eq_nil_of_le (by omega)]; simp))
                go_wp2_with fail
                refine (CL.out _ true (Fr.of_below hB) ⟨fun _ => hr, fun _ => rfl⟩).mono ?_
                rintro e w1 ⟨rfl, hf1⟩
                have f2 := HK.out _ ((Fr.of_below hB).trans hf1)
                have hB1 : Below w.heap.size w w1 := Fr.step hB hf1 hB.size (fun _ h => h.elim)
                have hr1 : w1.ownsRow w.heap.size 30 1 (.slice (some ⟨g2, 0, none⟩) out.length cap2) out.length (out.map (Value.int .u64)) := ownsRowB_of_block hro (fun j hj => hf1.block j (ownsRowB_ge hro hj).2 id)
                have hgl : g2 < w1.heap.size := (ownsRowB_ge hr1 (k := g2) rfl).2
                have hcap2 := own_cap2 hr1
                have hnws : ∀ (W2 : World), W2.heap[g2]? = w1.heap[g2]? → ∀ j u, (out.map (Value.int .u64))[j]? = some u → W2.cell? ⟨g2, j, none⟩ = some u := fun W2 e j u hj => (World.cell?_of_block (w := w1) e).trans (ownsRow_cell (ownsRow_zero hr1) rfl hj)
                have ht1 : ∀ j u, ((out.map (Value.int .u64)).take k)[j]? = some u → w1.cell? ((⟨g2, 0, none⟩ : Addr).add j) = some u := fun j u hj => by
                  rw [Addr.add_lit, Nat.zero_add]
                  refine hnws w1 rfl j u ?_
                  rw [List.getElem?_take] at hj
                  split at hj
                  · exact hj
                  · cases hj
                have hd1 : ∀ (W2 : World), W2.heap[g2]? = w1.heap[g2]? → ∀ j u, ((out.map (Value.int .u64)).drop k)[j]? = some u → W2.cell? ((⟨g2, k, none⟩ : Addr).add j) = some u := fun W2 e j u hj => by
                  rw [Addr.add_lit]
                  refine hnws W2 e (k + j) u ?_
                  rw [List.getElem?_drop] at hj
                  exact hj
                have HD1 := Lib.hid hd1
                have hone1 : ∀ u ∈ (out.map (Value.int .u64)).take k, u.oneCell' = true := fun u hu => ints_one out u (List.mem_of_mem_take hu)
                have hone3 : ∀ u ∈ (out.map (Value.int .u64)).drop k, u.oneCell' = true := fun u hu => ints_one out u (List.mem_of_mem_drop hu)
                have hlt1 : ((out.map (Value.int .u64)).take k).length = k * 1 := by rw [List.length_take, List.length_map]; omega
                have hld3 : ((out.map (Value.int .u64)).drop k).length = (out.length - k) * 1 := by rw [List.length_drop, List.length_map]; omega
                clear hnws hd1
                have hnn : w1.ownsRow w1.heap.size 30 1 (.slice none 0 0) 0 [] := World.ownsRow_nil _ _ _ _
                have hone2 : ∀ u ∈ [Value.int .u64 c], u.oneCell' = true := by simp [Value.oneCell']
                have h631 : 0 + k ≤ maxLen := by unfold maxLen; omega
                have hby1 : (0 + k) * 8 ≤ 140737488355328 := by omega
                have h632 : k + 1 ≤ maxLen := by unfold maxLen; omega
                have hby2 : (k + 1) * 8 ≤ 140737488355328 := by omega
                have h633 : k + 1 + (out.length - k) ≤ maxLen := by unfold maxLen; omega
                have hby3 : (k + 1 + (out.length - k)) * 8 ≤ 140737488355328 := by omega
                have hbs1 : w1.heap.size ≤ w1.heap.size := Nat.le_refl _
                have i1 : (0 : Int) ≤ (k : Int) := by omega
                have i2 : (k : Int) ≤ (cap2 : Int) := by omega
                have i3 : (k : Int) ≤ (out.length : Int) := by omega
                have HB2 : Hid (Below w1.heap.size w1 w1) := Lib.hid (Below.refl _ _)
                go_wp2_with (first | (at_builtin; refine wpList_append_own _ rfl _ _ 33 rfl w1.heap.size 30 i0 (.int .u64 0) 1 8 Try.underlying33 hi hz0 hz1 hz2 rfl (by decide) _ 0 [] rfl hnn ⟨g2, 0, none⟩ k _ ((out.map (Value.int .u64)).take k) rfl hlt1 ht1 hone1 h631 hby1 hbs1 ?_; intro v1 w3 hown1a hgrow1 _; have hown1 := row_cv (Nat.zero_add k) (List.nil_append _) hown1a; have B3 := HB2.out.grown hgrow1 HB2.out.size (fun k e => by cases e); have B4 := bal B3 (.cells #[.int .u64 c] 30); have hbs2 : w1.heap.size ≤ (w3.alloc (.cells #[.int .u64 c] 30)).heap.size := B4.size) | (at_builtin; refine wpList_append_own _ rfl _ _ 33 rfl w1.heap.size 30 i0 (.int .u64 0) 1 8 Try.underlying33 hi hz0 hz1 hz2 rfl (by decide) _ k ((out.map (Value.int .u64)).take k) rfl (hown1.alloc _) ⟨w3.heap.size, 0, none⟩ 1 1 [.int .u64 c] rfl rfl (World.news_of_block (hp_new _ _ rfl)) hone2 h632 hby2 hbs2 ?_; intro v' w5 hown' hgrow _; have B5 := B4.grown hgrow B4.size (fun k e => (ownsRowB_ge hown1 e).1); obtain ⟨g', cap', rfl⟩ := ownsRow_succ hown'; have hd3 : ∀ (j : Nat) (u : Value), ((out.map (Value.int .u64)).drop k)[j]? = some u → w5.cell? ((⟨g2, 0, none⟩ : Addr).add j) = some u := (fun (j : Nat) (u : Value) hj => absurd hj (by rw [List.getElem?_eq_none (by rw [hld3]; omega)]; simp)); have hbs3 := B5.size) | (at_builtin; refine wpList_append_own _ rfl _ _ 33 rfl w1.heap.size 30 i0 (.int .u64 0) 1 8 Try.underlying33 hi hz0 hz1 hz2 rfl (by decide) (.slice (some ⟨g', 0, none⟩) (k + 1) cap') (k + 1) ((out.map (Value.int .u64)).take k ++ [.int .u64 c]) rfl hown' ⟨g2, 0, none⟩ (out.length - k) _ ((out.map (Value.int .u64)).drop k) rfl hld3 hd3 hone3 h633 hby3 hbs3 ?_; intro v7 w7 hown7 hgrow7 _; have B7 := B5.grown hgrow7 B5.size (fun k e => (ownsRowB_ge hown' e).1); obtain ⟨g7, cap7, rfl⟩ : ∃ g7 cap7, v7 = .slice (some ⟨g7, 0, none⟩) (k + 1 + (out.length - k)) cap7 := own_some hown7 (by omega)))
                go_roundw
                case rel => exact ⟨i + 1, out.take k ++ [c] ++ out.drop k, by omega, by go_num, ownsRow_base (row_cv (by simp; omega) (by simp) hown7) hB1.size, hB1.trans (B7.mono hB1.size), Lib.hid ⟨HR.out, by simp; omega⟩⟩
                case measure => simp [intOf]; omega
              · have HR : Hid (RP S a b (i + 1) (out.take k ++ [c] ++ out.drop k)) := Lib.hid (INS.out hr k HTK.out (by rw [List.drop_eq_nil_of_le (by omega)]; simp))
                go_wp2_with fail
                refine (CL.out _ true (Fr.of_below hB) ⟨fun _ => hr, fun _ => rfl⟩).mono ?_
                rintro e w1 ⟨rfl, hf1⟩
                have f2 := HK.out _ ((Fr.of_below hB).trans hf1)
                have hB1 : Below w.heap.size w w1 := Fr.step hB hf1 hB.size (fun _ h => h.elim)
                have hr1 : w1.ownsRow w.heap.size 30 1 (.slice (some ⟨g2, 0, none⟩) out.length cap2) out.length (out.map (Value.int .u64)) := ownsRowB_of_block hro (fun j hj => hf1.block j (ownsRowB_ge hro hj).2 id)
                have hgl : g2 < w1.heap.size := (ownsRowB_ge hr1 (k := g2) rfl).2
                have hcap2 := own_cap2 hr1
                have hnws : ∀ (W2 : World), W2.heap[g2]? = w1.heap[g2]? → ∀ j u, (out.map (Value.int .u64))[j]? = some u → W2.cell? ⟨g2, j, none⟩ = some u := fun W2 e j u hj => (World.cell?_of_block (w := w1) e).trans (ownsRow_cell (ownsRow_zero hr1) rfl hj)
                have ht1 : ∀ j u, ((out.map (Value.int .u64)).take k)[j]? = some u → w1.cell? ((⟨g2, 0, none⟩ : Addr).add j) = some u := fun j u hj => by
                  rw [Addr.add_lit, Nat.zero_add]
                  refine hnws w1 rfl j u ?_
                  rw [List.getElem?_take] at hj
                  split at hj
                  · exact hj
                  · cases hj
                have hd1 : ∀ (W2 : World), W2.heap[g2]? = w1.heap[g2]? → ∀ j u, ((out.map (Value.int .u64)).drop k)[j]? = some u → W2.cell? ((⟨g2, k, none⟩ : Addr).add j) = some u := fun W2 e j u hj => by
                  rw [Addr.add_lit]
                  refine hnws W2 e (k + j) u ?_
                  rw [List.getElem?_drop] at hj
                  exact hj
                have HD1 := Lib.hid hd1
                have hone1 : ∀ u ∈ (out.map (Value.int .u64)).take k, u.oneCell' = true := fun u hu => ints_one out u (List.mem_of_mem_take hu)
                have hone3 : ∀ u ∈ (out.map (Value.int .u64)).drop k, u.oneCell' = true := fun u hu => ints_one out u (List.mem_of_mem_drop hu)
                have hlt1 : ((out.map (Value.int .u64)).take k).length = k * 1 := by rw [List.length_take, List.length_map]; omega
                have hld3 : ((out.map (Value.int .u64)).drop k).length = (out.length - k) * 1 := by rw [List.length_drop, List.length_map]; omega
                clear hnws hd1
                have hnn : w1.ownsRow w1.heap.size 30 1 (.slice none 0 0) 0 [] := World.ownsRow_nil _ _ _ _
                have hone2 : ∀ u ∈ [Value.int .u64 c], u.oneCell' = true := by simp [Value.oneCell']
                have h631 : 0 + k ≤ maxLen := by unfold maxLen; omega
                have hby1 : (0 + k) * 8 ≤ 140737488355328 := by omega
                have h632 : k + 1 ≤ maxLen := by unfold maxLen; omega
                have hby2 : (k + 1) * 8 ≤ 140737488355328 := by omega
                have h633 : k + 1 + (out.length - k) ≤ maxLen := by unfold maxLen; omega
                have hby3 : (k + 1 + (out.length - k)) * 8 ≤ 140737488355328 := by omega
                have hbs1 : w1.heap.size ≤ w1.heap.size := Nat.le_refl _
                have i1 : (0 : Int) ≤ (k : Int) := by omega
                have i2 : (k : Int) ≤ (cap2 : Int) := by omega
                have i3 : (k : Int) ≤ (out.length : Int) := by omega
                have HB2 : Hid (Below w1.heap.size w1 w1) := Lib.hid (Below.refl _ _)
                go_wp2_with (first | (at_builtin; refine wpList_append_own _ rfl _ _ 33 rfl w1.heap.size 30 i0 (.int .u64 0) 1 8 Try.underlying33 hi hz0 hz1 hz2 rfl (by decide) _ 0 [] rfl hnn ⟨g2, 0, none⟩ k _ ((out.map (Value.int .u64)).take k) rfl hlt1 ht1 hone1 h631 hby1 hbs1 ?_; intro v1 w3 hown1a hgrow1 _; have hown1 := row_cv (Nat.zero_add k) (List.nil_append _) hown1a; have B3 := HB2.out.grown hgrow1 HB2.out.size (fun k e => by cases e); have B4 := bal B3 (.cells #[.int .u64 c] 30); have hbs2 : w1.heap.size ≤ (w3.alloc (.cells #[.int .u64 c] 30)).heap.size := B4.size) | (at_builtin; refine wpList_append_own _ rfl _ _ 33 rfl w1.heap.size 30 i0 (.int .u64 0) 1 8 Try.underlying33 hi hz0 hz1 hz2 rfl (by decide) _ k ((out.map (Value.int .u64)).take k) rfl (hown1.alloc _) ⟨w3.heap.size, 0, none⟩ 1 1 [.int .u64 c] rfl rfl (World.news_of_block (hp_new _ _ rfl)) hone2 h632 hby2 hbs2 ?_; intro v' w5 hown' hgrow _; have B5 := B4.grown hgrow B4.size (fun k e => (ownsRowB_ge hown1 e).1); obtain ⟨g', cap', rfl⟩ := ownsRow_succ hown'; have hd3 : ∀ (j : Nat) (u : Value), ((out.map (Value.int .u64)).drop k)[j]? = some u → w5.cell? ((⟨g2, k, none⟩ : Addr).add j) = some u := HD1.out w5 (B5.block g2 hgl); have hbs3 := B5.size) | (at_builtin; refine wpList_append_own _ rfl _ _ 33 rfl w1.heap.size 30 i0 (.int .u64 0) 1 8 Try.underlying33 hi hz0 hz1 hz2 rfl (by decide) (.slice (some ⟨g', 0, none⟩) (k + 1) cap') (k + 1) ((out.map (Value.int .u64)).take k ++ [.int .u64 c]) rfl hown' ⟨g2, k, none⟩ (out.length - k) _ ((out.map (Value.int .u64)).drop k) rfl hld3 hd3 hone3 h633 hby3 hbs3 ?_; intro v7 w7 hown7 hgrow7 _; have B7 := B5.grown hgrow7 B5.size (fun k e => (ownsRowB_ge hown' e).1); obtain ⟨g7, cap7, rfl⟩ : ∃ g7 cap7, v7 = .slice (some ⟨g7, 0, none⟩) (k + 1 + (out.length - k)) cap7 := own_some hown7 (by omega)))
                go_roundw
                case rel => exact ⟨i + 1, out.take k ++ [c] ++ out.drop k, by omega, by go_num, ownsRow_base (row_cv (by simp; omega) (by simp) hown7) hB1.size, hB1.trans (B7.mono hB1.size), Lib.hid ⟨HR.out, by simp; omega⟩⟩
                case measure => simp [intOf]; omega
    · obtain rfl : i = S.length := by omega
      have HR := HRP
      clear HRP
      go_wp2_with fail
      go_ret
      exact ⟨_, out, rfl, HR.out.1, HR.out.2, hro, hB⟩
end Go.Proofs.Ythmabnigdnbdkaa
