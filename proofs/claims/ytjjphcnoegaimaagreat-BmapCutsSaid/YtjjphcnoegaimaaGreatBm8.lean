/- Package bmap: what its iterator gives; rows beside a row that is turned. -/
import Derived.Test.YtjjphcnoegaimaaGreatBmPlain
namespace Go.Proofs.YtjjphcnoegaimaaGreat
open Go.RowKit Go.Shelf Go.Maps
set_option linter.unusedSimpArgs false
set_option maxRecDepth 20000
set_option linter.unusedVariables false

/-- What taken's iterator gives. -/
theorem taken_seq (n : Nat) (hn : 1 ≤ n) {Bf Bl b off cap : Nat} {zs : List Int} {cs : Array Value} {t : TypeId} {from_ : Int} {w : World} (hzl : zs.length ≤ 1000) (hf0 : -1000 ≤ from_) (hf1 : from_ ≤ 1000) (hBf : Bf ≠ b) (hBl : Bl ≠ b)
    (hcs : ∀ k, k < zs.length → cs[off + k]? = some (.int .u16 (zs.getD k 0))) (hbf : w.heap[Bf]? = some (.cells #[.int .i64 from_] 3 (0, 0))) (hbl : w.heap[Bl]? = some (.cells #[.slice (some ⟨b, off, none⟩) zs.length cap] 68 (0, 0))) (hb : w.heap[b]? = some (.cells cs t (0, 0))) :
    SeqW n Tryz.prog 90 #[.pointer (some ⟨Bf, 0, none⟩), .pointer (some ⟨Bl, 0, none⟩)] (fun x : Int => #[Value.int .u16 x]) (KeepB (fun k => k = b ∨ k = Bf ∨ k = Bl)) b (fun ys => ys = nz (zs.drop from_.toNat)) (Zd cs t off from_.toNat zs.length) zs.length w :=
  fun l J W hW hJ hY h0 => taken1_in n l Bf Bl b off cap hn zs hzl cs t from_ hf0 hf1 hBf hBl hcs J hJ hY W (cl_of (bblk hW hbf) 0) (cl_of (bblk hW hbl) 0) (bblk hW hb) h0

theorem ownsRow_weak {W : World} {n0 n1 : Nat} {e : TypeId} {size : Nat} {v : Value} {k : Nat} {xs : List Value} (h : W.ownsRow n1 e size v k xs) (hn : n0 ≤ n1) : W.ownsRow n0 e size v k xs := by
  obtain ⟨a, b⟩ := h
  exact ⟨a, b.imp id (fun ⟨g, cp, cur, e1, h0, r⟩ => ⟨g, cp, cur, e1, Nat.le_trans hn h0, r⟩)⟩
/-- A box takes a row that was appended to. -/
theorem boxed_app {W w1 : World} {n0 n1 B : Nat} {t e : TypeId} {size : Nat} {v v' : Value} {k m : Nat} {xs ys : List Value} {tmp : Obj}
    (hv : Boxed W B t v) (hte : t ≠ e) (hrow : W.ownsRow n1 e size v k xs) (h1 : n1 ≤ W.heap.size) (h0 : n0 ≤ n1) (hB : n0 ≤ B) (hown' : w1.ownsRow n1 e size v' m ys) (hgrow : (W.alloc tmp).grownBy w1 v.ownBlock) :
    (Boxed w1 B t v ∧ Boxed (w1.setCell ⟨B, 0, none⟩ v') B t v' ∧ (w1.setCell ⟨B, 0, none⟩ v').ownsRow n1 e size v' m ys ∧ KeepsOthers W (w1.setCell ⟨B, 0, none⟩ v') ∧ Below n0 W (w1.setCell ⟨B, 0, none⟩ v')) ∧
      ∀ k, k < W.heap.size → k ≠ B → (n1 ≤ k → ∃ o, W.heap[k]? = some o ∧ ∀ cs fz, o ≠ .cells cs e fz) → (w1.setCell ⟨B, 0, none⟩ v').heap[k]? = W.heap[k]? := by
  obtain ⟨a, b, -, c, d⟩ := hv.appended hte (ownsRow_weak hrow h0) (Nat.le_trans h0 h1) hB (ownsRow_weak hown' h0) hgrow
  refine ⟨⟨a, b, hown'.kept (grownBy_setCell' w1 B v') (.inr (a.not_row hte hown').symm), c, d⟩, fun k hk hkB hkt => ?_⟩
  refine (Below.heap_setCell w1 ⟨B, 0, none⟩ v' k hkB).trans ((hgrow.block k (by simp; omega) (fun e1 => ?_)).trans (hp_old W tmp hk))
  rcases hrow.2 with ⟨rfl, _⟩ | ⟨g, cap, cur, rfl, hg0, hgb, _⟩
  · cases e1
  · cases e1
    obtain ⟨o, h2, h3⟩ := hkt hg0
    rw [h2] at hgb
    cases hgb
    exact h3 _ _ rfl
theorem zd_ino (x : Ino) (q : Nat) {t : TypeId} {o : Obj} (h : Zd (ic x) t 3 q 4 o) : o = .cells (ic (x.cutd q)) t (0, 0) := by
  obtain ⟨c, rfl, hc⟩ := h
  congr 1
  apply Array.ext_getElem?
  intro j
  rw [hc]
  by_cases hj : j < 8
  · have : j = 0 ∨ j = 1 ∨ j = 2 ∨ j = 3 ∨ j = 4 ∨ j = 5 ∨ j = 6 ∨ j = 7 := by omega
    rcases this with rfl | rfl | rfl | rfl | rfl | rfl | rfl | rfl
    · rw [if_neg (by omega)]; rfl
    · rw [if_neg (by omega)]; rfl
    · rw [if_neg (by omega)]; rfl
    · by_cases h1 : 0 < q
      · rw [if_neg (by omega)]; simp [ic, Ino.cutd, h1]
      · rw [if_pos (by omega)]; simp [ic, Ino.cutd, h1]
    · by_cases h1 : 1 < q
      · rw [if_neg (by omega)]; simp [ic, Ino.cutd, h1]
      · rw [if_pos (by omega)]; simp [ic, Ino.cutd, h1]
    · by_cases h1 : 2 < q
      · rw [if_neg (by omega)]; simp [ic, Ino.cutd, h1]
      · rw [if_pos (by omega)]; simp [ic, Ino.cutd, h1]
    · by_cases h1 : 3 < q
      · rw [if_neg (by omega)]; simp [ic, Ino.cutd, h1]
      · rw [if_pos (by omega)]; simp [ic, Ino.cutd, h1]
    · rw [if_neg (by omega)]; rfl
  · rw [if_neg (by omega), Array.getElem?_eq_none (by simp [ic]; omega), Array.getElem?_eq_none (by simp [ic]; omega)]

theorem infoU16x : ∃ i0, Tryz.prog.info? 57 = some i0 ∧ i0.zero = some (.int .u16 0) ∧ i0.size = 1 ∧ i0.bytes = 2 := by
  have h := Tryz.infoU16'
  cases e : Tryz.prog.info? 57 with
  | none => rw [e] at h; cases h
  | some i =>
    rw [e] at h
    simp only [Option.map_some, Option.some.injEq, Prod.mk.injEq] at h
    exact ⟨i, rfl, h.1, h.2.1, h.2.2⟩
/-- What holds while blocks are taken: a row in box bf; blocks K lie as in wr. -/
structure CutI (W wr : World) (bf n5 : Nat) (K : Nat → Prop) (fs : List Int) (W' : World) : Prop where
  row : ∃ v, Boxed W' bf 68 v ∧ W'.ownsRow n5 57 1 v fs.length (u16s fs)
  below : Below W.heap.size W W'
  same : ∀ k, K k → W'.heap[k]? = wr.heap[k]?
/-- The blocks K are none of those that turn: neither the box, nor block b, nor a row of numbers. -/
structure KOk (W wr : World) (bf b n5 : Nat) (K : Nat → Prop) : Prop where
  lt : ∀ k, K k → k < wr.heap.size
  nf : ∀ k, K k → k ≠ bf
  nb : ∀ k, K k → k ≠ b
  n5' : ∀ k, K k → n5 ≤ k → ∃ o, wr.heap[k]? = some o ∧ ∀ cs fz, o ≠ .cells cs 57 fz
  gb : W.heap.size ≤ b
  b5 : b < n5
  bb : b ≠ bf
  gf : W.heap.size ≤ bf
  f5 : bf < n5
  r5 : n5 ≤ wr.heap.size
  w5 : W.heap.size ≤ n5
section
variable {W wr W' : World} {bf b n5 : Nat} {K : Nat → Prop} {fs : List Int}
theorem CutI.size (h : CutI W wr bf n5 K fs W') (hk : KOk W wr bf b n5 K) (hs : wr.heap.size ≤ W'.heap.size) : n5 ≤ W'.heap.size := Nat.le_trans hk.r5 hs
theorem CutI.own (hk : KOk W wr bf b n5 K) {f : List Int → List Int} : OwnFrom wr.heap.size (fun pre W' => CutI W wr bf n5 K (f pre) W' ∧ wr.heap.size ≤ W'.heap.size) := by
  rintro pre Wa Wb row ⟨hs, hz⟩ hg hr
  refine ⟨⟨?_, ?_, fun k hk1 => ?_⟩, Nat.le_trans hz hg.size⟩
  · obtain ⟨v, a, b⟩ := hs.row
    exact ((holdsRow_own n5 bf 68 57 1 (fun pre : List Int => (f pre).length) (fun pre => u16s (f pre)) (fun _ _ => True)) pre Wa Wb row ⟨v, a, b, trivial⟩ hg (fun r e => (hr r e).2)).imp (fun v h => ⟨h.1, h.2.1⟩)
  · exact hs.below.grown hg hs.below.size (fun k e => Nat.le_trans (Nat.le_trans hk.w5 hk.r5) (hr k e).1)
  · refine (hg.block k (Nat.lt_of_lt_of_le (hk.lt k hk1) hz) (fun e => ?_)).trans (hs.same k hk1)
    have := (hr k e.symm).1
    have := hk.lt k hk1
    omega
theorem CutI.turn (hk : KOk W wr bf b n5 K) (h : CutI W wr bf n5 K fs W') (j : Nat) (u : Value) : CutI W wr bf n5 K fs (W'.setCell ⟨b, j, none⟩ u) := by
  have hb : ∀ k, k ≠ b → (W'.setCell ⟨b, j, none⟩ u).heap[k]? = W'.heap[k]? := fun k hk => Below.heap_setCell W' _ _ k hk
  refine ⟨?_, h.below.setCell hk.gb _, fun k hk1 => (hb k (hk.nb k hk1)).trans (h.same k hk1)⟩
  obtain ⟨v, h1, h2⟩ := h.row
  refine ⟨v, (hb bf hk.bb.symm).trans h1, ownsRow_blockB h2 (fun k e => ?_)⟩
  rcases h2.2 with ⟨rfl, _⟩ | ⟨g, cap, cur, rfl, h0, _⟩
  · cases e
  · cases e
    have hgb : g ≠ b := by have := hk.b5; omega
    exact hb g hgb
theorem CutI.app {w1 : World} {v v' : Value} {x : Int} {tmp : Obj} (hk : KOk W wr bf b n5 K) (h : CutI W wr bf n5 K fs W') (hz : wr.heap.size ≤ W'.heap.size) (hv : Boxed W' bf 68 v) (hrow : W'.ownsRow n5 57 1 v fs.length (u16s fs))
    (hown' : w1.ownsRow n5 57 1 v' (fs.length + 1) (u16s fs ++ [.int .u16 x])) (hgrow : (W'.alloc tmp).grownBy w1 v.ownBlock) :
    Boxed w1 bf 68 v ∧ Hid (KeepsOthers W' (w1.setCell ⟨bf, 0, none⟩ v') ∧ (∀ k, (k = b ∨ K k) → (w1.setCell ⟨bf, 0, none⟩ v').heap[k]? = W'.heap[k]?) ∧ CutI W wr bf n5 K (fs ++ [x]) (w1.setCell ⟨bf, 0, none⟩ v') ∧ wr.heap.size ≤ (w1.setCell ⟨bf, 0, none⟩ v').heap.size) := by
  obtain ⟨⟨h1, h2, h3, h4, h5⟩, h6⟩ := boxed_app (n0 := W.heap.size) hv (by decide) hrow (Nat.le_trans hk.r5 hz) hk.w5 hk.gf hown' hgrow
  have hK : ∀ k, K k → (w1.setCell ⟨bf, 0, none⟩ v').heap[k]? = W'.heap[k]? := fun k hk1 => h6 k (Nat.lt_of_lt_of_le (hk.lt k hk1) hz) (hk.nf k hk1) (fun hn => by
    obtain ⟨o, a, b⟩ := hk.n5' k hk1 hn
    exact ⟨o, (h.same k hk1).trans a, b⟩)
  refine ⟨h1, Lib.hid ⟨h4, fun k hk1 => ?_, ⟨⟨v', h2, ?_⟩, ?_, fun k hk1 => (hK k hk1).trans (h.same k hk1)⟩, Nat.le_trans hz h4.size⟩⟩
  · rcases hk1 with rfl | hk1
    · exact h6 k (by have := hk.b5; have := hk.r5; omega) hk.bb (fun hn => by have := hk.b5; omega)
    · exact hK k hk1
  · have e : u16s (fs ++ [x]) = u16s fs ++ [Value.int .u16 x] := by simp [u16s]
    rw [List.length_append, e]
    exact h3
  · exact h.below.trans h5
end

section
variable {w0 W Wb : World} {X X2 : Nat → Prop} {p jb N tb m n5 k D D2 : Nat} {M : Wl} {v : Value} {xs : List Value}
/-- The end of a call that ranged twice. -/
structure FS (w0 W : World) (X X2 : Nat → Prop) (p jb N tb m : Nat) (M : Wl) (n5 : Nat) (v : Value) (k : Nat) (xs : List Value) (D D2 : Nat) (Wb : World) : Prop where
  tj : TJ w0 X2 p jb N 0 1 40 0 0 (newS N) tb m M false Wb
  kb : Kb w0 (fun k => X k ∧ k ≠ m) W Wb
  row : Wb.ownsRow n5 57 1 v k xs
  d : Wb.heap[D]? = some (.deferred (some []))
  d2 : Wb.heap[D2]? = some (.deferred (some []))
  rx : ∀ j, v.ownBlock = some j → X2 j
structure FK (w0 W : World) (X X2 : Nat → Prop) (jb tb m n5 D D2 : Nat) : Prop where
  hX : ∀ k, X k → k < W.heap.size
  xj : X jb
  xt : X tb
  xm : X m
  w : w0.heap.size ≤ W.heap.size
  n5' : W.heap.size ≤ n5
  d : n5 ≤ D
  d2 : n5 ≤ D2
  dd : D ≠ D2
  xx : ∀ k, X k → X2 k
  x2 : X2 D ∧ X2 D2
theorem FS.set (h : FS w0 W X X2 p jb N tb m M n5 v k xs D D2 Wb) (hk : FK w0 W X X2 jb tb m n5 D D2) {b : Nat} (hb : W.heap.size ≤ b) (hb5 : b < n5) (hx : X2 b) (o : Nat) (u : Value) : FS w0 W X X2 p jb N tb m M n5 v k xs D D2 (Wb.setCell ⟨b, o, none⟩ u) := by
  have hj := hk.hX _ hk.xj
  have ht := hk.hX _ hk.xt
  have hm := hk.hX _ hk.xm
  have hw := hk.w
  have hd := hk.d
  have hd2 := hk.d2
  have hs : ∀ j, j ≠ b → (Wb.setCell ⟨b, o, none⟩ u).heap[j]? = Wb.heap[j]? := fun j hj => kb_set o u j hj
  refine ⟨h.tj.setC hx (by omega) (by omega) (by omega) (by omega) o u, fun j hj2 => ?_, ?_, (hs D (by omega)).trans h.d, (hs D2 (by omega)).trans h.d2, h.rx⟩
  · refine (hs j ?_).trans (h.kb j hj2)
    rcases hj2 with e | e
    · omega
    · have := hk.hX j e.1; omega
  · refine ownsRow_blockB h.row (fun j e => ?_)
    rcases h.row.2 with ⟨rfl, _⟩ | ⟨g, cap, cur, rfl, h0, _⟩
    · cases e
    · cases e
      have hgb : g ≠ b := by omega
      exact hs g hgb
theorem FS.drew (h : FS w0 W X X2 p jb N tb m M n5 v k xs D D2 Wb) : FS w0 W X X2 p jb N tb m M n5 v k xs D D2 Wb.drew := ⟨h.tj.drewn 1, h.kb, h.row, h.d, h.d2, h.rx⟩
theorem FS.put1 (h : FS w0 W X X2 p jb N tb m M n5 v k xs D D2 Wb) (hk : FK w0 W X X2 jb tb m n5 D D2) : (Wb.putObj D2 (.deferred none)).heap[D]? = some (.deferred (some [])) := (World.putObj_heap_other (fun e => hk.dd e)).trans h.d
theorem FS.finX (h : FS w0 W X X2 p jb N tb m M n5 v k xs D D2 Wb) (hk : FK w0 W X X2 jb tb m n5 D D2) : TJ w0 X2 p jb N 0 1 40 0 0 (newS N) tb m M false ((Wb.putObj D2 (.deferred none)).putObj D (.deferred none)) := by
  have hw := hk.w
  have hn := hk.n5'
  have hd := hk.d
  have hd2 := hk.d2
  exact (h.tj.putD hk.x2.2 (by omega) h.d2 _).putD hk.x2.1 (by omega) (h.put1 hk) _
theorem row_rx {W : World} {B : Nat} {e : TypeId} {size : Nat} {v : Value} {k : Nat} {xs : List Value} (h : W.ownsRow B e size v k xs) : ∀ j, v.ownBlock = some j → B ≤ j ∧ j < W.heap.size := fun j e => by
  rcases h.2 with ⟨rfl, _⟩ | ⟨g, cap, cur, rfl, h0, hh, _⟩
  · cases e
  · cases e
    exact ⟨h0, blk_lt hh⟩
theorem FS.fin (h : FS w0 W X X2 p jb N tb m M n5 v k xs D D2 Wb) (hk : FK w0 W X X2 jb tb m n5 D D2) : ((Wb.putObj D2 (.deferred none)).putObj D (.deferred none)).ownsRow W.heap.size 57 1 v k xs ∧ TJ w0 X p jb N 0 1 40 0 0 (newS N) tb m M false ((Wb.putObj D2 (.deferred none)).putObj D (.deferred none)) ∧ Kb w0 (fun k => X k ∧ k ≠ m) W ((Wb.putObj D2 (.deferred none)).putObj D (.deferred none)) := by
  have hw := hk.w
  have hn := hk.n5'
  have hd := hk.d
  have hd2 := hk.d2
  have hs : ∀ j, j ≠ D → j ≠ D2 → ((Wb.putObj D2 (.deferred none)).putObj D (.deferred none)).heap[j]? = Wb.heap[j]? := fun j h1 h2 => (World.putObj_heap_other h1).trans (World.putObj_heap_other h2)
  refine ⟨ownsRow_weak (ownsRow_blockB h.row (fun j e => ?_)) hn, ((h.tj.putD hk.x2.2 (by omega) h.d2 _).putD hk.x2.1 (by omega) (h.put1 hk) _).less hk.xx hk.xj hk.xt hk.xm, fun j hj => (hs j ?_ ?_).trans (h.kb j hj)⟩
  · rcases h.row.2 with ⟨rfl, _⟩ | ⟨g, cap, cur, rfl, h0, hh, _⟩
    · cases e
    · cases e
      refine hs g (fun e => ?_) (fun e => ?_)
      · rw [e] at hh; rw [h.d] at hh; cases hh
      · rw [e] at hh; rw [h.d2] at hh; cases hh
  · rcases hj with e | e
    · omega
    · have := hk.hX j e.1; omega
  · rcases hj with e | e
    · omega
    · have := hk.hX j e.1; omega
/-- An inode is laid in a block. -/
def put8 (W : World) (b : Nat) (y : Ino) : World := (((((((W.setCell ⟨b, 0, none⟩ (.int .u8 y.k)).setCell ⟨b, 1, none⟩ (.int .u16 y.l)).setCell ⟨b, 2, none⟩ (.int .u32 y.s)).setCell ⟨b, 3, none⟩ (.int .u16 y.d0)).setCell ⟨b, 4, none⟩ (.int .u16 y.d1)).setCell ⟨b, 5, none⟩ (.int .u16 y.d2)).setCell ⟨b, 6, none⟩ (.int .u16 y.d3)).setCell ⟨b, 7, none⟩ (.int .u16 y.n)
theorem put8_other (W : World) {b k : Nat} (hk : k ≠ b) (y : Ino) : (put8 W b y).heap[k]? = W.heap[k]? := by
  unfold put8
  rw [kb_set _ _ k hk, kb_set _ _ k hk, kb_set _ _ k hk, kb_set _ _ k hk, kb_set _ _ k hk, kb_set _ _ k hk, kb_set _ _ k hk, kb_set _ _ k hk]
theorem put8_here {W : World} {b : Nat} {x : Ino} (h : W.heap[b]? = some (.cells (ic x) 61 (0, 0))) (y : Ino) : (put8 W b y).heap[b]? = some (.cells (ic y) 61 (0, 0)) := by
  have h1 := blk_here h 0 (Value.int .u8 y.k)
  have h2 := blk_here h1 1 (Value.int .u16 y.l)
  have h3 := blk_here h2 2 (Value.int .u32 y.s)
  have h4 := blk_here h3 3 (Value.int .u16 y.d0)
  have h5 := blk_here h4 4 (Value.int .u16 y.d1)
  have h6 := blk_here h5 5 (Value.int .u16 y.d2)
  have h7 := blk_here h6 6 (Value.int .u16 y.d3)
  have h8 := blk_here h7 7 (Value.int .u16 y.n)
  clear h h1 h2 h3 h4 h5 h6 h7
  unfold put8
  rw [h8]
  simp [ic]
theorem FS.put8 (h : FS w0 W X X2 p jb N tb m M n5 v k xs D D2 Wb) (hk : FK w0 W X X2 jb tb m n5 D D2) {b : Nat} (hb : W.heap.size ≤ b) (hb5 : b < n5) (hx : X2 b) (y : Ino) : FS w0 W X X2 p jb N tb m M n5 v k xs D D2 (put8 Wb b y) :=
  (((((((h.set hk hb hb5 hx 0 _).set hk hb hb5 hx 1 _).set hk hb hb5 hx 2 _).set hk hb hb5 hx 3 _).set hk hb hb5 hx 4 _).set hk hb hb5 hx 5 _).set hk hb hb5 hx 6 _).set hk hb hb5 hx 7 _
theorem end_facts {W1 : World} {br bf : Nat} {x : Ino} {t : TypeId} {u : Value} (hr : W1.heap[br]? = some (.cells (ic x) 61 (0, 0))) (hv : Boxed W1 bf t u) (hb : br ≠ bf) (y : Ino) (v' : Value) :
    ((put8 W1 br y).setCell ⟨bf, 0, none⟩ v').drew.heap[br]? = some (.cells (ic y) 61 (0, 0)) ∧ Boxed (((put8 W1 br y).setCell ⟨bf, 0, none⟩ v').drew) bf t v' := by
  have h1 := put8_here hr y
  have h2 : Boxed (put8 W1 br y) bf t u := (put8_other W1 hb.symm y).trans hv
  generalize put8 W1 br y = W2 at *
  have h3 : (W2.setCell ⟨bf, 0, none⟩ v').heap[br]? = W2.heap[br]? := kb_set 0 _ br hb
  have h4 : Boxed (W2.setCell ⟨bf, 0, none⟩ v') bf t v' := Boxed.set _ h2
  generalize W2.setCell ⟨bf, 0, none⟩ v' = W3 at *
  exact ⟨h3.trans h1, h4⟩
theorem FS.last {br bf : Nat} (h : FS w0 W X X2 p jb N tb m M n5 v k xs D D2 Wb) (hk : FK w0 W X X2 jb tb m n5 D D2) (h1 : W.heap.size ≤ br) (h2 : br < n5) (h3 : X2 br) (h4 : W.heap.size ≤ bf) (h5 : bf < n5) (h6 : X2 bf) (y : Ino) (v' : Value) :
    FS w0 W X X2 p jb N tb m M n5 v k xs D D2 ((Go.Proofs.YtjjphcnoegaimaaGreat.put8 Wb br y).setCell ⟨bf, 0, none⟩ v').drew := ((h.put8 hk h1 h2 h3 y).set hk h4 h5 h6 0 v').drew
end
end Go.Proofs.YtjjphcnoegaimaaGreat
