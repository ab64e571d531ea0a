/- The law InodeBack: what was put is got, and what is got is put as it stood. -/
import Derived.Test.YtcdmipgopffaaaaInoAlive
import Derived.Lib.SmallJoins
import Derived.OpenShut
import Derived.Deep.DeepCutAuto
namespace Go.Proofs.Ytcdmipgopffaaaa
open Go.RowKit Go.ChangeShapes Go.WideShapes Go.Joins
set_option maxRecDepth 100000

/-- An inode that comes in. -/
structure InoV (v : Value) (x : Ino) : Prop where
  val : v = .agg (ic x)
  wf : x.Wf
theorem Try.cellsIno : Try.prog.cellsOf 51 = 8 := by kernel_rfl
theorem Try.cells8 : Try.prog.cellsOf 5 = 1 := by kernel_rfl
theorem Try.cells16 : Try.prog.cellsOf 40 = 1 := by kernel_rfl
theorem Try.cells32 : Try.prog.cellsOf 39 = 1 := by kernel_rfl
theorem Try.cells4 : Try.prog.cellsOf 49 = 4 := by kernel_rfl
theorem open_ino {H : Type} {enc : TypeId × Value → H} {w : World} {base : Nat} {held : Bool} {spare : Nat → Bool} {v : Value} {d : DataW H} {ps : List MemPlace}
    {r : Reach} {b0 : Nat} (hval : Value.okWide Try.prog w r b0 51 v) (hd : DataW.Trod enc Try.prog w base spare held 51 v d ps) : ∃ x, InoV v x := by
  obtain ⟨cs, rfl, hsz⟩ := okWide_struct Try.underlying51 hval
  obtain ⟨l⟩ := cs
  match l, hsz.trans Try.cellsIno with
  | [c0, c1, c2, c3, c4, c5, c6, c7], _ =>
    obtain ⟨fuel, hf⟩ := hd
    obtain ⟨xs, n, _, hx, _, hlen, hg⟩ := DataW.trod_struct Try.underlying51 hf
    match xs, hlen with
    | [y0, y1, y2, y3, y4], _ =>
      have g0 := hg 0 _ rfl
      have g1 := hg 1 _ rfl
      have g2 := hg 2 _ rfl
      have g3 := hg 3 _ rfl
      have g4 := hg 4 _ rfl
      simp only [Value.cells, List.getElem?_cons_zero, List.getElem?_cons_succ] at g0 g1 g2 g3 g4
      obtain ⟨a, e0, -, wa⟩ := DataW.trod_int Try.underlying5 g0
      obtain ⟨b, e1, -, wb⟩ := DataW.trod_int Try.underlying40 g1
      obtain ⟨c, e2, -, wc⟩ := DataW.trod_int Try.underlying39 g2
      obtain ⟨e, e4, -, we⟩ := DataW.trod_int Try.underlying40 g4
      obtain ⟨ys, m, _, _, _, hyl, hy⟩ := DataW.trod_array Try.underlying49 g3
      match ys, hyl with
      | [z0, z1, z2, z3], _ =>
        have k0 := hy 0 (by decide)
        have k1 := hy 1 (by decide)
        have k2 := hy 2 (by decide)
        have k3 := hy 3 (by decide)
        simp only [Try.cells16, Nat.mul_one, List.drop_zero, List.getElem?_cons_zero, List.getElem?_cons_succ] at k0 k1 k2 k3
        obtain ⟨d0, u0, -, w0⟩ := DataW.trod_int Try.underlying40 k0
        obtain ⟨d1, u1, -, w1⟩ := DataW.trod_int Try.underlying40 k1
        obtain ⟨d2, u2, -, w2⟩ := DataW.trod_int Try.underlying40 k2
        obtain ⟨d3, u3, -, w3⟩ := DataW.trod_int Try.underlying40 k3
        simp [Try.cells8, Try.cells16, Try.cells32, Try.cells4] at e0 e1 e2 e4 u0 u1 u2 u3
        subst e0 e1 e2 e4 u0 u1 u2 u3
        exact ⟨⟨a, b, c, d0, d1, d2, d3, e⟩, rfl, wfu8 wa, wfu16 wb, wfu32 wc, wfu16 w0, wfu16 w1, wfu16 w2, wfu16 w3, wfu16 we⟩

/-- What Put answers. -/
def PutR (x : Ino) (l : List UInt8) (z : Int) : Prop := (z = 0 ∧ x.May ∧ l = x.bytes) ∨ (z = 2 ∧ ¬ x.May ∧ l = [])
theorem iput_some (x : Ino) (hw : x.Wf) (w : World) : Calls Try.prog 29 #[.agg (ic x)] w fun e w' => (∃ l z, e = .returned (.tuple #[.string (bs l), .int .i64 z]) ∧ PutR x l z) ∧ Below w.heap.size w w' := by
  by_cases h : x.May
  · exact (iput_yes x hw h w).mono fun e w' ⟨he, hB⟩ => ⟨⟨_, _, he, .inl ⟨rfl, h, rfl⟩⟩, hB⟩
  · exact (iput_no x hw h w).mono fun e w' ⟨he, hB⟩ => ⟨⟨_, _, he, .inr ⟨rfl, h, rfl⟩⟩, hB⟩

set_option maxHeartbeats 4000000 in
theorem inoback_walk (v0 : Value) (x : Ino) (v1 : Value) (y : Ino) (s : ByteArray) (hx : InoV v0 x) (hy : InoV v1 y) (hs : s.size ≤ 140737488351232) (w : World) :
    Calls Try.prog 7 #[v0, v1, .string s] w fun e w' => e = .returned (.bool true) ∧ Below w.heap.size w w' := by
  obtain ⟨l, rfl⟩ : ∃ l, s = bs l := ⟨_, (bs_of s).symm⟩
  obtain rfl := hx.val
  obtain rfl := hy.val
  have wx := hx.wf
  have wy := hy.wf
  clear hx hy
  rw [bs_size] at hs
  have hsl := bs_size l
  by_cases hlong : 1000 < l.length
  · unfold ic
    go_enter Try.func7, Try.ntmps7
    go_wp2_with fail
    refine (alive07 _).mono ?_
    rintro e w1 ⟨rfl, hB⟩
    go_wp2_with fail
    go_ret
    exact ⟨rfl, bt (bal (bnew _ _) _) hB⟩
  · have px := iput_some x wx
    have py := iput_some y wy
    have d0 := blk_old (hp_new w (.cells (ic x) 51) rfl) (.cells (ic y) 51)
    have d1 : ((w.alloc (.cells (ic x) 51)).alloc (.cells (ic y) 51)).heap[w.heap.size + 1]? = some (.cells (ic y) 51 (0, 0)) := hp_new _ _ (by simp)
    unfold ic at px py d0 d1 ⊢
    have PX := Lib.hid px
    have PY := Lib.hid py
    clear px py
    go_enter Try.func7, Try.ntmps7
    go_wp2_with fail
    refine (PX.out _).mono ?_
    rintro e w1 ⟨⟨la, za, rfl, RX⟩, hB⟩
    have X1 := bblk hB d0
    have Y1 := bblk hB d1
    have B1 := bt (bal (bnew w _) _) hB
    clear hB d0 d1
    have CY := C8.of (x := y) Y1
    obtain ⟨c0, c1, c2, c3, c4, c5, c6, c7⟩ := CY
    go_wp2_with fail
    refine (PY.out _).mono ?_
    rintro e w2 ⟨⟨lb, zb, rfl, RY⟩, hB2⟩
    have X2 := bblk hB2 X1
    have Y2 := bblk hB2 Y1
    have B2 := bt B1 hB2
    clear hB2 B1 X1 Y1 c0 c1 c2 c3 c4 c5 c6 c7
    go_upto_if 32 with (fail)
    go_cut [] (fun wx => wx.heap[w.heap.size]? = some (.cells (ic x) 51 (0, 0)) ∧ wx.heap[w.heap.size + 1]? = some (.cells (ic y) 51 (0, 0)) ∧ Below w.heap.size w wx)
    case first =>
      rcases RX with ⟨rfl, hm, rfl⟩ | ⟨rfl, -, -⟩
      · have hget := iget_yes wx hm
        have hbl : (bs x.bytes).size = 32 := by rw [bs_size, Ino.bytes_length]
        have he := fun W => eq_ino x x W
        have hie : ieq x x = true := by simp [ieq]
        rw [hie] at he
        clear hie
        have CX := C8.of (x := x) X2
        obtain ⟨c0, c1, c2, c3, c4, c5, c6, c7⟩ := CX
        unfold ic at hget
        have HG := Lib.hid hget
        clear hget
        go_wp2_with fail
        refine (HG.out _).mono ?_
        rintro e w3 ⟨rfl, hB3⟩
        have X3 := bblk hB3 X2
        have Y3 := bblk hB3 Y2
        have CX := C8.of (x := x) X3
        have hlt3 := blk_lt X3
        clear c0 c1 c2 c3 c4 c5 c6 c7
        obtain ⟨c0, c1, c2, c3, c4, c5, c6, c7⟩ := CX
        go_wp2_with fail
        go_meet
        exact ⟨blk_old X3 _, blk_old Y3 _, bal (bt B2 hB3) _⟩
      · go_wp2_with fail
        go_meet
        exact ⟨X2, Y2, B2⟩
    case rest =>
      obtain ⟨X3, Y3, B3⟩ := hcut
      clear X2 Y2 B2
      have CX := C8.of (x := x) X3
      have CY := C8.of (x := y) Y3
      obtain ⟨c0, c1, c2, c3, c4, c5, c6, c7⟩ := CX
      obtain ⟨k0, k1, k2, k3, k4, k5, k6, k7⟩ := CY
      go_upto_region 9 with (fail)
      go_cut [64] (fun s wx => s = .bool false ∧ wx = wc)
      case first =>
        rcases RX with ⟨rfl, hm, rfl⟩ | ⟨rfl, -, -⟩
        · rcases RY with ⟨rfl, hm', rfl⟩ | ⟨rfl, -, -⟩
          · have he := fun W => eq_ino x y W
            have hq : ((bs x.bytes).toList == (bs y.bytes).toList) = ieq x y := by
              by_cases h : x = y
              · subst h
                rw [bs_eq' rfl]
                simp [ieq]
              · rw [bs_ne' (fun e => h (Ino.bytes_inj wx wy e))]
                simp [ieq, h]
            go_wp2_with fail
            go_meet
            exact ⟨rfl, rfl⟩
          · go_wp2_with fail
            go_meet
            exact ⟨rfl, rfl⟩
        · go_wp2_with fail
          go_meet
          exact ⟨rfl, rfl⟩
      case rest =>
        obtain ⟨rfl, rfl⟩ := hcut
        clear c0 c1 c2 c3 c4 c5 c6 c7 k0 k1 k2 k3 k4 k5 k6 k7 RX RY PX PY
        by_cases hshort : l.length < 32
        · go_wp2_with fail
          refine (iget_short l hshort _).mono ?_
          unfold ic Ino.zero
          dsimp only
          rintro e w5 ⟨rfl, hB5⟩
          have he := fun W => eq_ino Ino.zero Ino.zero W
          have hie : ieq Ino.zero Ino.zero = true := by decide
          rw [hie] at he
          clear hie
          dsimp only [Ino.zero] at he
          go_wp2_with fail
          refine (alive07 _).mono ?_
          rintro e w6 ⟨rfl, hB6⟩
          go_wp2_with fail
          go_ret
          exact ⟨rfl, bt (bal (bt B3 hB5) _) hB6⟩
        · by_cases hex : ∃ z : Ino, z.Wf ∧ z.May ∧ z.bytes = l
          · obtain ⟨z, wz, hmz, rfl⟩ := hex
            have hget := iget_yes wz hmz
            have hput := iput_yes z wz hmz
            unfold ic at hget hput
            have HG := Lib.hid hget
            have HP := Lib.hid hput
            clear hget hput
            go_wp2_with fail
            refine (HG.out _).mono ?_
            rintro e w5 ⟨rfl, hB5⟩
            have B5 := bal (bt B3 hB5) (.cells (ic z) 51)
            unfold ic at B5
            go_wp2_with fail
            refine (HP.out _).mono ?_
            rintro e w6 ⟨rfl, hB6⟩
            go_wp2_with fail
            refine (alive07 _).mono ?_
            rintro e w7 ⟨rfl, hB7⟩
            go_wp2_with fail
            go_ret
            exact ⟨rfl, bt (bt B5 hB6) hB7⟩
          · go_wp2_with fail
            refine (iget_no (by omega) (by omega) (fun z wz hmz e => hex ⟨z, wz, hmz, e⟩) _).mono ?_
            unfold ic Ino.zero
            dsimp only
            rintro e w5 ⟨rfl, hB5⟩
            have he := fun W => eq_ino Ino.zero Ino.zero W
            have hie : ieq Ino.zero Ino.zero = true := by decide
            rw [hie] at he
            clear hie
            dsimp only [Ino.zero] at he
            go_wp2_with fail
            refine (alive07 _).mono ?_
            rintro e w6 ⟨rfl, hB6⟩
            go_wp2_with fail
            go_ret
            exact ⟨rfl, bt (bal (bt B3 hB5) _) hB6⟩
end Go.Proofs.Ytcdmipgopffaaaa
