/- SeqAlone: counters that nobody opens; readers don't clash. -/
import Derived.Test.YthmabnigdnbdkaaClashPlain
import Derived.Test.YthmabnigdnbdkaaSeqOff
namespace Go.Proofs.Ythmabnigdnbdkaa
open Go.RowKit
set_option maxRecDepth 100000

structure SO (w0 : World) (p m s : Nat) (base : Int) (on : Bool) (N : List (Int × Int)) (S : List Touch) (W : World) : Prop where
  co : CO w0 p m on N S W
  seq : SeqAt W s p base
  s : w0.heap.size ≤ s
theorem SO.below {w0 W : World} {p m s : Nat} {base : Int} {on : Bool} {N : List (Int × Int)} {S : List Touch} (h : SO w0 p m s base on N S W) : Below w0.heap.size w0 W := h.co.below
theorem SO.fr {w0 w w' : World} {p m s : Nat} {base : Int} {on : Bool} {N : List (Int × Int)} {S : List Touch} (h : SO w0 p m s base on N S w) (hf : Fr (fun _ => False) w w') : SO w0 p m s base on N S w' := ⟨h.co.fr hf, h.seq.fr hf id, h.s⟩
theorem SO.step {w0 w w' : World} {p m s : Nat} {base : Int} {on on' : Bool} {N N' N0 : List (Int × Int)} {S S' S0 : List Touch} {on0 : Bool} {sv : Value} (h : SO w0 p m s base on N S w) (hc : CellsAt w p m sv on0 N0 S0) (hk : ∀ k, cfoot p m sv k → w0.heap.size ≤ k) (hst : CStep w p m sv on' N' S' w') : SO w0 p m s base on' N' S' w' ∧ Kt w w' := by
  have hd := h.seq.apart hc
  refine ⟨⟨h.co.step hk hst, ?_, h.s⟩, ?_⟩
  · obtain ⟨sv', a, b, c⟩ := hst
    exact h.seq.fr b hd
  · obtain ⟨sv', a, b, c⟩ := hst
    intro l cs t fz hl h1 h2
    exact b.block l (blk_lt hl) (hc.away hl h1 h2)
theorem so_new {w w1 : World} {p m : Nat} {base : Int} (h : CO w p m false [] [] w1) :
    Calls Try.prog 33 #[.pointer (some ⟨p, 0, none⟩), .int .u64 base] w1 fun e w' => e = .returned (.pointer (some ⟨w1.heap.size, 0, none⟩)) ∧ SO w p m w1.heap.size base false [] [] w' := by
  refine (seq_new w1 p base).mono ?_
  rintro e w2 ⟨rfl, hq, rfl⟩
  exact ⟨rfl, h.fr (frm_alloc (Fr.refl _ _) _), hq, h.below.size⟩
theorem so_write {w0 w : World} {p m s : Nat} {base : Int} {on : Bool} {N : List (Int × Int)} {S : List Touch} (h : SO w0 p m s base on N S w) (hn : Few S) (core cell v : Int) :
    Calls Try.prog 22 #[.pointer (some ⟨p, 0, none⟩), .int .i64 core, .int .u64 cell, .int .i64 v] w fun e w' => e = .returned (.tuple #[]) ∧ SO w0 p m s base on (nput cell v N) (logged on S ⟨core, cell, true⟩) w' ∧ Kt w w' := by
  obtain ⟨sv, hc, hk⟩ := h.co.ex
  refine (write_any hc hn core cell v).mono ?_
  rintro e w' ⟨rfl, hst⟩
  exact ⟨rfl, h.step hc hk hst⟩
theorem so_note {w0 w : World} {p m s : Nat} {base : Int} {on : Bool} {N : List (Int × Int)} {S : List Touch} (h : SO w0 p m s base on N S w) (b : Bool) :
    Calls Try.prog 14 #[.pointer (some ⟨p, 0, none⟩), .bool b] w fun e w' => e = .returned (.tuple #[]) ∧ SO w0 p m s base b N S w' := by
  obtain ⟨sv, hc, hk⟩ := h.co.ex
  refine (cells_note hc b).mono ?_
  rintro e w' ⟨rfl, hst⟩
  exact ⟨rfl, (h.step hc hk hst).1⟩
theorem so_begin {w0 w : World} {p m s : Nat} {base : Int} {on : Bool} {N : List (Int × Int)} {S : List Touch} (h : SO w0 p m s base on N S w) (hn : Few S) (core k c v : Int) (hc' : u64s base k = c) (hv : nget c N = v) :
    Calls Try.prog 36 #[.pointer (some ⟨s, 0, none⟩), .int .i64 core, .int .u64 k] w fun e w' => e = .returned (.int .i64 v) ∧ SO w0 p m s base on N (logged on S ⟨core, c, false⟩) w' ∧ Kt w w' := by
  subst hc' hv
  obtain ⟨sv, hc, hk⟩ := h.co.ex
  refine (seq_begin h.seq hc hn core k).mono ?_
  rintro e w' ⟨rfl, hst⟩
  exact ⟨rfl, h.step hc hk hst⟩
theorem so_same {w0 w : World} {p m s : Nat} {base : Int} {on : Bool} {N : List (Int × Int)} {S : List Touch} (h : SO w0 p m s base on N S w) (hn : Few S) (core k c v : Int) (b : Bool) (hc' : u64s base k = c) (hv : decide (nget c N = v ∧ v.tmod 2 = 0) = b) :
    Calls Try.prog 37 #[.pointer (some ⟨s, 0, none⟩), .int .i64 core, .int .u64 k, .int .i64 v] w fun e w' => e = .returned (.bool b) ∧ SO w0 p m s base on N (logged on S ⟨core, c, false⟩) w' ∧ Kt w w' := by
  subst hc' hv
  obtain ⟨sv, hc, hk⟩ := h.co.ex
  refine (seq_same h.seq hc hn core k v).mono ?_
  rintro e w' ⟨rfl, hst⟩
  exact ⟨rfl, h.step hc hk hst⟩
theorem so_open {w0 w : World} {p m s : Nat} {base : Int} {on : Bool} {N : List (Int × Int)} {S : List Touch} (h : SO w0 p m s base on N S w) (hn : Few S) (core k c : Int) (hc' : u64s base k = c) :
    Calls Try.prog 34 #[.pointer (some ⟨s, 0, none⟩), .int .i64 core, .int .u64 k] w fun e w' => e = .returned (.tuple #[]) ∧ SO w0 p m s base on (nput c (wrap64 (nget c N + 1)) N) (logged on S ⟨core, c, true⟩) w' ∧ Kt w w' := by
  subst hc'
  obtain ⟨sv, hc, hk⟩ := h.co.ex
  refine (seq_open h.seq hc hn core k).mono ?_
  rintro e w' ⟨rfl, hst⟩
  exact ⟨rfl, h.step hc hk hst⟩
theorem so_busy {w0 w : World} {p m s : Nat} {base : Int} {on : Bool} {N : List (Int × Int)} {S : List Touch} (h : SO w0 p m s base on N S w) (k c : Int) (b : Bool) (hc' : u64s base k = c) (hv : decide (nget c N % 2 = 1) = b) :
    Calls Try.prog 38 #[.pointer (some ⟨s, 0, none⟩), .int .u64 k] w fun e w' => e = .returned (.bool b) ∧ SO w0 p m s base on N S w' := by
  subst hc' hv
  obtain ⟨sv, hc, hk⟩ := h.co.ex
  refine (seq_busy h.seq hc k).mono ?_
  rintro e w' ⟨rfl, rfl⟩
  exact ⟨rfl, h.fr (Fr.refl _ _).drew⟩
theorem so_clash {w0 w : World} {p m s : Nat} {base : Int} {on : Bool} {N : List (Int × Int)} {SW : List TW} (h : SO w0 p m s base on N (SW.map Subtype.val) w) (hn : Few (SW.map Subtype.val)) (a b : Int) (hab : a ≠ b) (hM : (cagg a b SW).length ≤ 12) (cs : List Int)
    (hcs : clashes (cagg a b SW) (((cagg a b SW).map Prod.fst).mergeSort (fun x y => decide (x ≤ y))) = cs) :
    Calls Try.prog 16 #[.pointer (some ⟨p, 0, none⟩), .int .i64 a, .int .i64 b] w fun e w' => (∃ ao cap, e = .returned (.slice ao cs.length cap)) ∧ SO w0 p m s base on N (SW.map Subtype.val) w' ∧ Below w.heap.size w w' := by
  obtain ⟨sv, hc, hk⟩ := h.co.ex
  refine (clash_few hc hn a b hab hM).mono ?_
  rintro e w' ⟨v, cs', rfl, he, hr, hb⟩
  rw [hcs] at he
  subst he
  obtain ⟨ao, cap, rfl, _⟩ := own_form (ownsRowB_zero hr)
  exact ⟨⟨ao, cap, rfl⟩, h.fr (Fr.of_below hb), hb⟩
/-- Another row is appended to. -/
theorem SO.row {w0 w w' : World} {p m s : Nat} {base : Int} {on : Bool} {N : List (Int × Int)} {S : List Touch} {B n : Nat} {xs : List Value} {v : Value} (h : SO w0 p m s base on N S w) (hr : w.ownsRow B 2 1 v n xs) (hB : w0.heap.size ≤ B) (hg : w.grownBy w' v.ownBlock) : SO w0 p m s base on N S w' := by
  obtain ⟨sv, hc, hk⟩ := h.co.ex
  have hf := Fr.of_grownBy hg
  have hd : ∀ k, v.ownBlock = some k → ¬ cfoot p m sv k := fun k hk' => by
    obtain ⟨cur, hb⟩ := ownsRow_type (ownsRowB_zero hr) hk'
    exact hc.away hb (by decide) (by decide)
  have hds : v.ownBlock ≠ some s := by
    intro e
    obtain ⟨cur, hb⟩ := ownsRow_type (ownsRowB_zero hr) e
    have := h.seq
    rw [SeqAt, hb] at this
    simp at this
  refine ⟨⟨⟨sv, hc.fr hf (fun k hk' e => hd k e.symm hk'), hk⟩, Fr.step h.below hf h.below.size (fun k e => ?_)⟩, h.seq.fr hf (fun e => hds e.symm), h.s⟩
  have := (hr.lt k e.symm).1
  omega

/-- Reads of one cell by the first cores. -/
theorem w5 : (Lit.int .u64 5).wf = true := by decide
def rds (n : Nat) : List TW := (List.range n).map fun (i : Nat) => (⟨⟨(i : Int), 5, false⟩, w5⟩ : TW)
theorem rds_succ (n : Nat) : rds (n + 1) = rds n ++ [⟨⟨n, 5, false⟩, w5⟩] := by simp [rds, List.range_succ]
theorem rds_length (n : Nat) : (rds n).length = n := by simp [rds]
theorem rds_mem {n : Nat} {t : TW} (h : t ∈ rds n) : t.1.cell = 5 ∧ t.1.write = false := by
  simp only [rds, List.mem_map] at h
  obtain ⟨i, _, rfl⟩ := h
  exact ⟨rfl, rfl⟩
def alone (n j : Nat) : List TW := rds n ++ rds j
theorem alone_cell {n j : Nat} {t : TW} (h : t ∈ alone n j) : t.1.cell = 5 := by
  rcases List.mem_append.1 h with h | h
  · exact (rds_mem h).1
  · exact (rds_mem h).1
theorem alone_read {n j : Nat} {t : TW} (h : t ∈ alone n j) : t.1.write = false := by
  rcases List.mem_append.1 h with h | h
  · exact (rds_mem h).2
  · exact (rds_mem h).2
def wr30 : TW := ⟨⟨30, 5, true⟩, w5⟩
theorem tmod2 (x : Int) : x.tmod 2 = 0 ↔ x % 2 = 0 := ⟨fun h => Int.emod_eq_zero_of_dvd (Int.dvd_of_tmod_eq_zero h), fun h => Int.tmod_eq_zero_of_dvd (Int.dvd_of_emod_eq_zero h)⟩
theorem alone_mem {j : Nat} {t : TW} (h : t ∈ alone j j ++ [wr30]) : t.1.cell = 5 := by
  rcases List.mem_append.1 h with h | h
  · exact alone_cell h
  · simp at h; subst h; rfl
theorem alone_agg {j : Nat} : (cagg 0 30 (alone j j ++ [wr30])).length ≤ 12 := by
  have := cagg_two (a := 0) (b := 30) (ca := 5) (cb := 5) (alone j j ++ [wr30]) (fun t ht _ => alone_mem ht) (fun t ht _ => alone_mem ht)
  omega
theorem alone_clash {j : Nat} (hj : 0 < j) : clashes (cagg 0 30 (alone j j ++ [wr30])) (((cagg 0 30 (alone j j ++ [wr30])).map Prod.fst).mergeSort (fun x y => decide (x ≤ y))) = [5] := by
  refine clash_one _ (fun t ht => alone_mem ht) ⟨⟨⟨0, 5, false⟩, w5⟩, ?_, rfl⟩ ⟨wr30, by simp, rfl, rfl⟩
  refine List.mem_append_left _ (List.mem_append_left _ (List.mem_map.2 ⟨0, by simpa using hj, rfl⟩))
theorem Kt.trans {a b c : World} (h : Kt a b) (k : Kt b c) : Kt a c := fun l cs t fz hl h1 h2 => by
  have e := h l cs t fz hl h1 h2
  exact (k l cs t fz (e.trans hl) h1 h2).trans e
theorem alone_few {n j : Nat} (hn : n ≤ 20) (hj : j ≤ 20) : Few ((alone n j).map Subtype.val) := ⟨by simp [alone, rds_length]; omega⟩
theorem alone_log (n j : Nat) : logged true ((alone n j).map Subtype.val) ⟨j, 5, false⟩ = (alone n (j + 1)).map Subtype.val := by simp [logged, alone, rds_succ]
theorem rds_log (n : Nat) : logged true ((rds n).map Subtype.val) ⟨n, 5, false⟩ = (rds (n + 1)).map Subtype.val := by simp [logged, rds_succ]
theorem Try.infoI64 : (Try.prog.info? 2).map (fun i => (i.zero, i.size, i.bytes)) = some (some (.int .i64 0), 1, 8) := by kernel_rfl

set_option maxHeartbeats 8000000 in
theorem alone_walk (first nn : Int) {w : World} (hf : (Lit.int .i64 first).wf = true) (hnn : (Lit.int .u8 nn).wf = true) :
    Calls Try.prog 8 #[.int .i64 first, .int .u8 nn] w fun e w' => e = .returned (.bool true) ∧ Below w.heap.size w w' := by
  have hn0 : 0 ≤ nn ∧ nn < 256 := by
    simp [Lit.wf, IntKind.min, IntKind.max, IntKind.signed, IntKind.bits] at hnn
    omega
  have hb : -9223372036854775808 ≤ first ∧ first ≤ 9223372036854775807 := by
    simp [Lit.wf, IntKind.min, IntKind.max, IntKind.signed, IntKind.bits] at hf
    omega
  obtain ⟨n, hn⟩ : ∃ n : Nat, (n : Int) = nn % 20 := ⟨(nn % 20).toNat, by omega⟩
  have hn20 : n < 20 := by omega
  have HN := Lib.hid hn
  obtain ⟨i0, hi, hz0, hz1, hz2⟩ := info_parts Try.infoI64
  clear hf hnn hn
  go_enter Try.func8, Try.ntmps8
  go_wp2_with fail
  refine (co_new w).mono ?_
  rintro e w1 ⟨p, m, rfl, h1⟩
  go_wp2_with fail
  refine (so_new (base := 0) h1).mono ?_
  rintro e w2 ⟨rfl, h2⟩
  generalize w1.heap.size = s at h2 ⊢
  go_wp2_with fail
  refine (so_write h2 ⟨by simp⟩ 0 5 first).mono ?_
  rintro e w3 ⟨rfl, h3, -⟩
  go_wp2_with fail
  refine (so_note h3 true).mono ?_
  rintro e w4 ⟨rfl, h4⟩
  have HG : Hid (nget 5 (nput 5 first []) = first) := by rw [Hid, nget_put, if_pos rfl]
  generalize nput 5 first [] = N at *
  have h4' : SO w p m s 0 true N ((rds 0).map Subtype.val) w4 := h4
  clear h1 h2 h3 h4
  go_wp2_with fail
  go_loopw [7, 8, 9] (fun v7 v8 _ wr => ∃ k : Nat, k ≤ n ∧ v8 = .int .i64 k ∧ wr.ownsRow w.heap.size 2 1 v7 k (List.replicate k (.int .i64 first)) ∧ SO w p m s 0 true N ((rds k).map Subtype.val) wr) (fun _ v8 _ _ => n - (intOf v8).toNat)
  case atStart => exact ⟨0, by omega, rfl, World.ownsRow_nil _ _ _ _, h4'⟩
  case round =>
    obtain ⟨k, hk, rfl, hrow, hS⟩ := hrel
    clear h4'
    by_cases hlt : k < n
    · have hkn : (k : Int) < nn % 20 := by rw [← HN.out]; omega
      have hfew : Few ((rds k).map Subtype.val) := ⟨by simp [rds_length]; omega⟩
      go_wp2_with fail
      refine (so_begin hS hfew k 5 5 first (by decide) HG.out).mono ?_
      rintro e w5 ⟨rfl, h5, hkt⟩
      rw [rds_log] at h5
      have hrow5 : w5.ownsRow w.heap.size 2 1 u7 k (List.replicate k (.int .i64 first)) := ownsRowB_of_block hrow (fun j hj => by
        obtain ⟨cur, hb⟩ := ownsRow_type (ownsRowB_zero hrow) hj
        exact hkt j _ _ _ hb (by decide) (by decide))
      have hle := h5.below.size
      have hl2 : k + 1 ≤ maxLen := by unfold maxLen; omega
      go_wp2_with (at_builtin; refine wpList_append_own _ rfl _ _ 28 rfl w.heap.size 2 i0 (.int .i64 0) 1 8 Try.underlying28 hi hz0 hz1 hz2 rfl (by decide) _ _ _ rfl (hrow5.alloc _) ⟨w5.heap.size, 0, none⟩ 1 1 [.int .i64 first] rfl rfl (Go.cell_one_new _ _ _) (by simp [Value.oneCell']) hl2 (by omega) (by simp; omega) ?_)
      intro v' w6 hown' hgrow _
      have h6 := (h5.fr (frm_alloc (Fr.refl _ w5) (.cells #[.int .i64 first] 2))).row (hrow5.alloc _) (Nat.le_refl _) hgrow
      go_wp2_with fail
      go_roundw
      case rel => exact ⟨k + 1, by omega, by go_num, by rw [List.replicate_succ']; exact hown', h6⟩
      case measure => simp [intOf]; omega
    · obtain rfl : k = n := by omega
      have hkn : ¬ (k : Int) < nn % 20 := by rw [← HN.out]; omega
      obtain ⟨ao, cap, rfl, hca⟩ := own_form (ownsRowB_zero hrow)
      clear hi hz0 hz1 hz2
      obtain ⟨wo, rfl⟩ : ∃ wo : World, wo = wr := ⟨_, rfl⟩
      go_wp2_with fail
      go_loopw [10] (fun v10 wr2 => ∃ j : Nat, j ≤ k ∧ v10 = .int .i64 j ∧ Kt wo wr2 ∧ SO w p m s 0 true N ((alone k j).map Subtype.val) wr2) (fun v10 _ => k - (intOf v10).toNat)
      case atStart => exact ⟨0, by omega, rfl, Kt.refl _, by simpa [alone, rds] using hS⟩
      case round =>
        obtain ⟨j, hj, rfl, hkt, hS2⟩ := hrel
        clear hS
        by_cases hjk : j < k
        · obtain ⟨g, rfl, -, hgl, hgc⟩ := hca (by omega)
          obtain ⟨cur, hgb⟩ := ownsRow_type (ownsRowB_zero hrow) rfl
          have c0 : wr.cell? ⟨g, j, none⟩ = some (.int .i64 first) := by
            rw [World.cell?_of_block (w := wo) (a := ⟨g, j, none⟩) (hkt g _ _ _ hgb (by decide) (by decide))]
            exact hgc j _ (by simp [hjk])
          have hgb2 := (hkt g _ _ _ hgb (by decide) (by decide)).trans hgb
          have hfew := alone_few (n := k) (j := j) (by omega) (by omega)
          clear hca hgc hrow hgb
          by_cases he : first.tmod 2 = 0
          · go_wp2_with fail
            refine (so_same hS2 hfew j 5 5 first true (by decide) (by rw [HG.out]; simp [he])).mono ?_
            rintro e w7 ⟨rfl, h7, hkt7⟩
            rw [alone_log] at h7
            have c7 : w7.cell? ⟨g, j, none⟩ = some (.int .i64 first) := by
              rw [World.cell?_of_block (w := wr) (a := ⟨g, j, none⟩) (hkt7 g _ _ _ hgb2 (by decide) (by decide))]
              exact c0
            go_wp2_with fail
            go_roundw
            case rel => exact ⟨j + 1, by omega, by go_num, hkt.trans hkt7, h7⟩
            case measure => simp [intOf]; omega
          · go_wp2_with fail
            refine (so_same hS2 hfew j 5 5 first false (by decide) (by rw [HG.out]; simp [he])).mono ?_
            rintro e w7 ⟨rfl, h7, hkt7⟩
            rw [alone_log] at h7
            have c7 : w7.cell? ⟨g, j, none⟩ = some (.int .i64 first) := by
              rw [World.cell?_of_block (w := wr) (a := ⟨g, j, none⟩) (hkt7 g _ _ _ hgb2 (by decide) (by decide))]
              exact c0
            go_wp2_with fail
            go_roundw
            case rel => exact ⟨j + 1, by omega, by go_num, hkt.trans hkt7, h7⟩
            case measure => simp [intOf]; omega
        · obtain rfl : j = k := by omega
          clear hca hrow hkt
          have hfew := alone_few (n := j) (j := j) (by omega) (by omega)
          have hlen2 : ((alone j j).map Subtype.val).length ≤ 40 := by simp [alone, rds_length]; omega
          go_wp2_with fail
          go_loopw [11] (fun v11 wr3 => ∃ i : Nat, 1 ≤ i ∧ v11 = .int .i64 i ∧ SO w p m s 0 true N ((alone j j).map Subtype.val) wr3) (fun v11 _ => j - (intOf v11).toNat)
          case atStart => exact ⟨1, by omega, rfl, hS2⟩
          case round =>
            obtain ⟨i, hi1, rfl, hS3⟩ := hrel
            clear hS2
            by_cases hij : i < j
            · go_wp2_with fail
              refine (so_clash hS3 hfew 0 i (by omega) (by have := cagg_two (a := 0) (b := i) (ca := 5) (cb := 5) (alone j j) (fun t ht _ => alone_cell ht) (fun t ht _ => alone_cell ht); omega) [] (apart_read (c := 5) _ (fun t ht => alone_cell ht) (fun t ht => alone_read ht) _)).mono ?_
              rintro e w8 ⟨⟨ao2, cap2, rfl⟩, h8, -⟩
              go_wp2_with fail
              go_roundw
              case rel => exact ⟨i + 1, by omega, by go_num, h8⟩
              case measure => simp [intOf]; omega
            · have hS4 := hS3
              clear hS3
              by_cases he : first.tmod 2 = 0
              · have hpar : wrap64 (first + 1) % 2 = 1 := by have := (tmod2 first).1 he; simp only [wrap64]; omega
                have hbq : (first.tmod 2 == 0) = true := by simpa using he
                go_wp2_with fail
                refine (so_open hS4 hfew 30 5 5 (by decide)).mono ?_
                rintro e w8 ⟨rfl, h8, -⟩
                rw [HG.out] at h8
                have hlog : logged true ((alone j j).map Subtype.val) ⟨30, 5, true⟩ = (alone j j ++ [wr30]).map Subtype.val := by simp [logged, wr30]
                rw [hlog] at h8
                have HP := Lib.hid hpar
                clear hlog hpar hS4
                by_cases hj0 : j = 0
                · subst hj0
                  go_wp2_with fail
                  refine (so_busy h8 5 5 true (by decide) (by rw [nget_put, if_pos rfl]; simp [HP.out])).mono ?_
                  rintro e w9 ⟨rfl, h9⟩
                  go_wp2_with fail
                  refine (alive15 _).mono ?_
                  rintro e wa ⟨rfl, hB⟩
                  go_wp2_with fail
                  go_ret
                  exact ⟨rfl, bt h9.below hB⟩
                · have hb0 : ((j : Int) == 0) = false := by simp; omega
                  have hMw := alone_agg (j := j)
                  have hcl := alone_clash (j := j) (by omega)
                  have hfew2 : Few ((alone j j ++ [wr30]).map Subtype.val) := ⟨by simp [alone, rds_length]; omega⟩
                  go_wp2_with fail
                  refine (so_clash h8 hfew2 0 30 (by decide) hMw [5] hcl).mono ?_
                  rintro e w9 ⟨⟨ao2, cap2, rfl⟩, h9, -⟩
                  clear hcl hMw
                  go_wp2_with fail
                  refine (so_busy h9 5 5 true (by decide) (by rw [nget_put, if_pos rfl]; simp [HP.out])).mono ?_
                  rintro e wa ⟨rfl, ha⟩
                  go_wp2_with fail
                  refine (alive15 _).mono ?_
                  rintro e wb ⟨rfl, hB⟩
                  go_wp2_with fail
                  go_ret
                  exact ⟨rfl, bt ha.below hB⟩
              · have hpar : ¬ wrap64 (first + 1) % 2 = 1 := by have hq : ¬ first % 2 = 0 := fun h => he ((tmod2 first).2 h); simp only [wrap64]; omega
                have hbq : (first.tmod 2 == 0) = false := by simpa using he
                go_wp2_with fail
                refine (so_open hS4 hfew 30 5 5 (by decide)).mono ?_
                rintro e w8 ⟨rfl, h8, -⟩
                rw [HG.out] at h8
                have hlog : logged true ((alone j j).map Subtype.val) ⟨30, 5, true⟩ = (alone j j ++ [wr30]).map Subtype.val := by simp [logged, wr30]
                rw [hlog] at h8
                have HP := Lib.hid hpar
                clear hlog hpar hS4
                by_cases hj0 : j = 0
                · subst hj0
                  go_wp2_with fail
                  refine (so_busy h8 5 5 false (by decide) (by rw [nget_put, if_pos rfl]; simp [HP.out])).mono ?_
                  rintro e w9 ⟨rfl, h9⟩
                  go_wp2_with fail
                  refine (alive15 _).mono ?_
                  rintro e wa ⟨rfl, hB⟩
                  go_wp2_with fail
                  go_ret
                  exact ⟨rfl, bt h9.below hB⟩
                · have hb0 : ((j : Int) == 0) = false := by simp; omega
                  have hMw := alone_agg (j := j)
                  have hcl := alone_clash (j := j) (by omega)
                  have hfew2 : Few ((alone j j ++ [wr30]).map Subtype.val) := ⟨by simp [alone, rds_length]; omega⟩
                  go_wp2_with fail
                  refine (so_clash h8 hfew2 0 30 (by decide) hMw [5] hcl).mono ?_
                  rintro e w9 ⟨⟨ao2, cap2, rfl⟩, h9, -⟩
                  clear hcl hMw
                  go_wp2_with fail
                  refine (so_busy h9 5 5 false (by decide) (by rw [nget_put, if_pos rfl]; simp [HP.out])).mono ?_
                  rintro e wa ⟨rfl, ha⟩
                  go_wp2_with fail
                  refine (alive15 _).mono ?_
                  rintro e wb ⟨rfl, hB⟩
                  go_wp2_with fail
                  go_ret
                  exact ⟨rfl, bt ha.below hB⟩
end Go.Proofs.Ythmabnigdnbdkaa
