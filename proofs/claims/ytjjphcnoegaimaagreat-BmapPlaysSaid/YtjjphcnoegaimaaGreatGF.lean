/- The plain mathematics of the sum: registers of 32 bits as natural numbers, bit by bit. No program in sight. The walk through octet.Num: n bytes of a number. Noughts as bytes: 'string(make([]byte, n))'; a number's bytes for whole numbers. The walk through octet.Get: the number of bytes. -/
import Derived.Lib.Hide
import Derived.Test.YtjjphcnoegaimaaGreatProg
import Derived.Deep.OwnRows
import Derived.Test.YtjjphcnoegaimaaGreatGA
import Derived.Laws.BitsAllLaws
namespace Go.Proofs.YtjjphcnoegaimaaGreat

/-- One bit of a register. -/
def st (x : Nat) : Nat := if x % 2 = 1 then (x / 2) ^^^ 3988292384 else x / 2

def stn : Nat → Nat → Nat
  | 0, x => x
  | n + 1, x => stn n (st x)

theorem st_lt {x : Nat} (h : x < 4294967296) : st x < 4294967296 := by
  unfold st
  split
  · exact Nat.xor_lt_two_pow (n := 32) (by omega) (by decide)
  · omega

theorem st_even (x : Nat) : st (2 * x) = x := by
  unfold st
  rw [if_neg (by omega)]
  omega

theorem xor_assoc4 (a b c d : Nat) : (a ^^^ b) ^^^ (c ^^^ d) = (a ^^^ c) ^^^ (b ^^^ d) := by
  rw [Nat.xor_assoc, Nat.xor_assoc, ← Nat.xor_assoc b, ← Nat.xor_assoc c, Nat.xor_comm b c]

theorem st_xor (x y : Nat) : st (x ^^^ y) = st x ^^^ st y := by
  have h := @Nat.xor_mod_two_eq_one x y
  have hd : (x ^^^ y) / 2 = x / 2 ^^^ y / 2 := by
    have := @Nat.shiftRight_xor_distrib 1 x y
    simpa [Nat.shiftRight_eq_div_pow] using this
  unfold st
  rw [hd]
  by_cases hx : x % 2 = 1 <;> by_cases hy : y % 2 = 1
  · rw [if_neg (by rw [h]; simp [hx, hy]), if_pos hx, if_pos hy, xor_assoc4, Nat.xor_self, Nat.xor_zero]
  · rw [if_pos (by rw [h]; simp [hx, hy]), if_pos hx, if_neg hy, Nat.xor_assoc, Nat.xor_comm (y / 2), ← Nat.xor_assoc]
  · rw [if_pos (by rw [h]; simp [hx, hy]), if_neg hx, if_pos hy, Nat.xor_assoc]
  · rw [if_neg (by rw [h]; simp [hx, hy]), if_neg hx, if_neg hy]

theorem st_zero : st 0 = 0 := by decide

theorem st_ne {x : Nat} (h : x < 4294967296) (h0 : x ≠ 0) : st x ≠ 0 := by
  unfold st
  split
  · intro e
    have e' : x / 2 = 3988292384 := by
      have := congrArg (· ^^^ 3988292384) e
      simpa [Nat.xor_assoc] using this
    omega
  · omega

theorem stn_xor (n : Nat) : ∀ x y, stn n (x ^^^ y) = stn n x ^^^ stn n y := by
  induction n with
  | zero => intro x y; rfl
  | succ n ih => intro x y; simp only [stn, st_xor, ih]

theorem stn_zero (n : Nat) : stn n 0 = 0 := by
  induction n with
  | zero => rfl
  | succ n ih => simp only [stn, st_zero, ih]

theorem stn_lt (n : Nat) : ∀ {x}, x < 4294967296 → stn n x < 4294967296 := by
  induction n with
  | zero => intro x h; exact h
  | succ n ih => intro x h; exact ih (st_lt h)

theorem stn_ne (n : Nat) : ∀ {x}, x < 4294967296 → x ≠ 0 → stn n x ≠ 0 := by
  induction n with
  | zero => intro x _ h; exact h
  | succ n ih => intro x h h0; exact ih (st_lt h) (st_ne h h0)

theorem stn_add (n m : Nat) : ∀ x, stn (n + m) x = stn m (stn n x) := by
  induction n with
  | zero => intro x; rw [Nat.zero_add]; rfl
  | succ n ih => intro x; rw [Nat.add_right_comm]; exact ih _

theorem stn_shift (n : Nat) : ∀ x, stn n (2 ^ n * x) = x := by
  induction n with
  | zero => intro x; simp [stn]
  | succ n ih =>
    intro x
    have : 2 ^ (n + 1) * x = 2 * (2 ^ n * x) := by rw [Nat.pow_succ, Nat.mul_comm (2 ^ n) 2, Nat.mul_assoc]
    rw [stn, this, st_even, ih]

theorem join_xor (n a b : Nat) (h : a < 2 ^ n) : a + 2 ^ n * b = a ^^^ (2 ^ n * b) := by
  apply Nat.eq_of_testBit_eq
  intro i
  rw [Nat.testBit_xor, Nat.add_comm, Nat.testBit_two_pow_mul_add b h, Nat.testBit_two_pow_mul]
  by_cases hi : i < n
  · simp [hi, show ¬ n ≤ i by omega]
  · have : a.testBit i = false := Nat.testBit_lt_two_pow (Nat.lt_of_lt_of_le h (Nat.pow_le_pow_right (by decide) (by omega)))
    simp [hi, show n ≤ i by omega, this]

/-- A register that took a byte. -/
def upd (c b : Nat) : Nat := stn 8 (c ^^^ b)
/-- A register that took bytes. -/
def more (c : Nat) (l : List UInt8) : Nat := l.foldl (fun c b => upd c b.toNat) c

theorem upd_lt {c b : Nat} (hc : c < 4294967296) (hb : b < 256) : upd c b < 4294967296 :=
  stn_lt 8 (Nat.xor_lt_two_pow (n := 32) hc (by omega))

theorem more_nil (c : Nat) : more c [] = c := rfl
theorem more_cons (c : Nat) (b : UInt8) (l : List UInt8) : more c (b :: l) = more (upd c b.toNat) l := rfl
theorem more_append (c : Nat) (l m : List UInt8) : more c (l ++ m) = more (more c l) m := List.foldl_append ..
theorem more_snoc (c : Nat) (l : List UInt8) (b : UInt8) : more c (l ++ [b]) = upd (more c l) b.toNat := by rw [more_append]; rfl

theorem more_lt (l : List UInt8) : ∀ {c}, c < 4294967296 → more c l < 4294967296 := by
  induction l with
  | nil => intro c h; exact h
  | cons b l ih => intro c h; exact ih (upd_lt h b.toNat_lt)

/-- What the table does is what eight bits do. -/
theorem upd_table (c b : Nat) : c / 256 ^^^ stn 8 (c % 256 ^^^ b) = upd c b := by
  have e : c = c % 256 ^^^ 2 ^ 8 * (c / 256) := by
    rw [← join_xor 8 _ _ (by omega)]; omega
  unfold upd
  conv => rhs; rw [e, Nat.xor_comm (c % 256), Nat.xor_assoc, stn_xor, stn_shift]

/-- The reference's step: the register and the byte, a bit each. -/
def refC (c b : Nat) : Nat := if c % 2 = b % 2 then c / 2 else (c / 2) ^^^ 3988292384

theorem div2_xor (x y : Nat) : (x ^^^ y) / 2 = x / 2 ^^^ y / 2 := by
  have := @Nat.shiftRight_xor_distrib 1 x y
  simpa [Nat.shiftRight_eq_div_pow] using this

theorem refC_st (c b : Nat) : refC c b ^^^ (b / 2) = st (c ^^^ b) := by
  have h := @Nat.xor_mod_two_eq_one c b
  unfold refC st
  rw [div2_xor]
  by_cases e : c % 2 = b % 2
  · rw [if_pos e, if_neg (by rw [h]; omega)]
  · rw [if_neg e, if_pos (by rw [h]; omega), Nat.xor_assoc, Nat.xor_comm 3988292384, ← Nat.xor_assoc]

theorem refC_lt {c : Nat} (b : Nat) (h : c < 4294967296) : refC c b < 4294967296 := by
  unfold refC
  split
  · omega
  · exact Nat.xor_lt_two_pow (n := 32) (by omega) (by decide)

def refN : Nat → Nat → Nat → Nat
  | 0, c, _ => c
  | k + 1, c, b => refN k (refC c b) (b / 2)

theorem refN_stn (k : Nat) : ∀ c b, refN k c b ^^^ (b / 2 ^ k) = stn k (c ^^^ b) := by
  induction k with
  | zero => intro c b; simp [refN, stn]
  | succ k ih =>
    intro c b
    have := ih (refC c b) (b / 2)
    rw [refC_st] at this
    rw [stn, ← this, refN, Nat.div_div_eq_div_mul, Nat.pow_succ, Nat.mul_comm 2]

theorem refN_upd {c b : Nat} (hb : b < 256) : refN 8 c b = upd c b := by
  have := refN_stn 8 c b
  rw [Nat.div_eq_of_lt (by omega), Nat.xor_zero] at this
  exact this

/-- One step more at the end. -/
theorem refN_succ (k : Nat) : ∀ c b, refN (k + 1) c b = refC (refN k c b) (b / 2 ^ k) := by
  induction k with
  | zero => intro c b; simp [refN]
  | succ k ih =>
    intro c b
    have h1 : refN (k + 1 + 1) c b = refN (k + 1) (refC c b) (b / 2) := rfl
    have h2 : refN (k + 1) c b = refN k (refC c b) (b / 2) := rfl
    rw [h1, h2, ih, Nat.div_div_eq_div_mul, Nat.pow_succ, Nat.mul_comm 2]

theorem refN_lt (k : Nat) : ∀ {c} b, c < 4294967296 → refN k c b < 4294967296 := by
  induction k with
  | zero => intro c b h; exact h
  | succ k ih => intro c b h; exact ih _ (refC_lt b h)

/-! ### bytes as a number, the lowest first -/
def le : List UInt8 → Nat
  | [] => 0
  | b :: l => b.toNat + 256 * le l

theorem le_lt (l : List UInt8) : le l < 256 ^ l.length := by
  induction l with
  | nil => simp [le]
  | cons b l ih =>
    have := b.toNat_lt
    simp only [le, List.length_cons, Nat.pow_succ]
    omega

theorem le_append (l m : List UInt8) : le (l ++ m) = le l + 256 ^ l.length * le m := by
  induction l with
  | nil => simp [le]
  | cons b l ih =>
    simp only [List.cons_append, le, ih, List.length_cons, Nat.pow_succ, Nat.mul_add]
    rw [Nat.add_assoc, Nat.mul_comm (256 ^ l.length) 256, Nat.mul_assoc]

theorem more_le (l : List UInt8) : ∀ c, more c l = stn (8 * l.length) (c ^^^ le l) := by
  induction l with
  | nil => intro c; simp [more, le, stn]
  | cons b l ih =>
    intro c
    rw [more_cons, ih, List.length_cons, show 8 * (l.length + 1) = 8 + 8 * l.length by omega, stn_add]
    congr 1
    have hb : b.toNat < 2 ^ 8 := b.toNat_lt
    have : le (b :: l) = b.toNat ^^^ 2 ^ 8 * le l := by rw [← join_xor 8 _ _ hb]; rfl
    rw [this, ← Nat.xor_assoc, stn_xor, stn_shift]
    rfl

/-- The bytes of a number. -/
def bytesLE : Nat → Nat → List UInt8
  | _, 0 => []
  | v, n + 1 => UInt8.ofNat (v % 256) :: bytesLE (v / 256) n

theorem bytesLE_length (n : Nat) : ∀ v, (bytesLE v n).length = n := by
  induction n with
  | zero => intro v; rfl
  | succ n ih => intro v; simp [bytesLE, ih]

theorem le_bytesLE (n : Nat) : ∀ v, le (bytesLE v n) = v % 256 ^ n := by
  induction n with
  | zero => intro v; simp [bytesLE, le, Nat.mod_one]
  | succ n ih =>
    intro v
    have h : (UInt8.ofNat (v % 256)).toNat = v % 256 := by simp
    rw [bytesLE, le, h, ih, Nat.pow_succ, Nat.mul_comm (256 ^ n), Nat.mod_mul]

theorem bytesLE_le (l : List UInt8) : bytesLE (le l) l.length = l := by
  induction l with
  | nil => rfl
  | cons b l ih =>
    have hb := b.toNat_lt
    simp only [le, List.length_cons, bytesLE]
    rw [show (b.toNat + 256 * le l) % 256 = b.toNat by omega, show (b.toNat + 256 * le l) / 256 = le l by omega, ih]
    simp

theorem bytesLE_snoc (n : Nat) : ∀ v, bytesLE v (n + 1) = bytesLE v n ++ [UInt8.ofNat (v / 256 ^ n % 256)] := by
  induction n with
  | zero => intro v; simp [bytesLE]
  | succ n ih =>
    intro v
    rw [bytesLE, ih, bytesLE, List.cons_append, Nat.div_div_eq_div_mul, Nat.pow_succ, Nat.mul_comm 256]

theorem le_inj {l m : List UInt8} (hl : l.length = m.length) (h : le l = le m) : l = m := by
  rw [← bytesLE_le l, ← bytesLE_le m, hl, h]

/-! ### sums and sealed texts -/
def ones : Nat := 4294967295
def sum (l : List UInt8) : Nat := more ones l ^^^ ones
def sealed (l : List UInt8) : List UInt8 := l ++ bytesLE (sum l) 4

theorem ones_lt : ones < 4294967296 := by decide
theorem sum_lt (l : List UInt8) : sum l < 4294967296 := Nat.xor_lt_two_pow (n := 32) (more_lt l ones_lt) ones_lt

theorem sealed_length (l : List UInt8) : (sealed l).length = l.length + 4 := by simp [sealed, bytesLE_length]

/-- Whatever is sealed: the register over all of it comes to one number. -/
theorem more_sealed (l : List UInt8) : more ones (sealed l) = stn 32 ones := by
  rw [sealed, more_append, more_le (bytesLE _ _), bytesLE_length, le_bytesLE, Nat.mod_eq_of_lt (sum_lt l)]
  rw [sum, ← Nat.xor_assoc, Nat.xor_self, Nat.zero_xor]

/-- Two sealed texts that are as long are not told apart by 32 bits in a row. -/
theorem burst {l m : List UInt8} {bits n : Nat} (hl : l.length = m.length) (h0 : bits ≠ 0) (h1 : bits < 4294967296) (hn : n + 32 ≤ 8 * (l.length + 4))
    (h : le (sealed m) = le (sealed l) ^^^ 2 ^ n * bits) : False := by
  have hL := sealed_length l
  have hM := sealed_length m
  have e : stn (8 * (l.length + 4)) (ones ^^^ le (sealed m)) = stn (8 * (l.length + 4)) (ones ^^^ le (sealed l)) := by
    have a := more_sealed m
    have b := more_sealed l
    rw [more_le, hM, ← hl] at a
    rw [more_le, hL] at b
    rw [a, b]
  rw [h, ← Nat.xor_assoc, stn_xor] at e
  have z : stn (8 * (l.length + 4)) (2 ^ n * bits) = 0 := by
    have := congrArg (stn (8 * (l.length + 4)) (ones ^^^ le (sealed l)) ^^^ ·) e
    simpa [← Nat.xor_assoc] using this
  rw [show 8 * (l.length + 4) = n + (8 * (l.length + 4) - n) by omega, stn_add, stn_shift] at z
  exact stn_ne _ h1 h0 z

/-! ### exclusive or, text by text -/
def zipx : List UInt8 → List UInt8 → List UInt8
  | a :: l, b :: m => (a ^^^ b) :: zipx l m
  | _, _ => []

theorem more_zipx (l : List UInt8) : ∀ m c d, l.length = m.length → more (c ^^^ d) (zipx l m) = more c l ^^^ more d m := by
  induction l with
  | nil => intro m c d h; cases m with | nil => rfl | cons => simp at h
  | cons a l ih =>
    intro m c d h
    cases m with
    | nil => simp at h
    | cons b m =>
      simp only [zipx, more_cons]
      rw [← ih m _ _ (by simpa using h)]
      congr 1
      unfold upd
      rw [← stn_xor, UInt8.toNat_xor, xor_assoc4]

end Go.Proofs.YtjjphcnoegaimaaGreat

namespace Go.Proofs.YtjjphcnoegaimaaGreat
open Go.RowKit
set_option maxRecDepth 20000

theorem bs_append (l m : List UInt8) : bs l ++ bs m = bs (l ++ m) := by
  apply ByteArray.ext
  simp [bs, ByteArray.data_append]

/-- Bytes as cells. -/
def bc (l : List UInt8) : Array Value := (l.map fun b => Value.int .u8 (b.toNat : Int)).toArray
theorem bc_size (l : List UInt8) : (bc l).size = l.length := by simp [bc]
theorem bc_get {l : List UInt8} {i : Nat} (h : i < l.length) : (bc l)[i]? = some (.int .u8 (l[i].toNat : Int)) := by
  simp [bc, h]
theorem bc_set (l : List UInt8) (i : Nat) (b : UInt8) : (bc l).setIfInBounds i (.int .u8 (b.toNat : Int)) = bc (l.set i b) := by
  apply Array.ext'
  simp [bc, List.map_set]

/-- A number's bytes when k of n are laid. -/
def numK (v n k : Nat) : List UInt8 := bytesLE v k ++ List.replicate (n - k) 0
theorem numK_length {v n k : Nat} (h : k ≤ n) : (numK v n k).length = n := by simp [numK, bytesLE_length]; omega
theorem numK_all (v n : Nat) : numK v n n = bytesLE v n := by simp [numK]
theorem numK_set {v n k : Nat} (h : k < n) : (numK v n k).set k (UInt8.ofNat (v / 256 ^ k % 256)) = numK v n (k + 1) := by
  have e : n - k = (n - (k + 1)) + 1 := by omega
  rw [numK, e, List.replicate_succ, List.set_append_right _ _ (by rw [bytesLE_length]; omega), bytesLE_length, Nat.sub_self, List.set_cons_zero, numK, bytesLE_snoc, List.append_assoc]
  rfl
theorem made_bytes (n v : Nat) : madeCells #[Value.int .u8 0] n = bc (numK v n 0) := by
  apply Array.ext'
  simp [madeCells, bc, numK, bytesLE, Array.toList_range]
  apply List.ext_getElem <;> simp [Nat.mod_one]

theorem Tryz.infoU8 : (Tryz.prog.info? 5).map (fun i => (i.zero, i.size, i.bytes)) = some (some (.int .u8 0), 1, 1) := by kernel_rfl

theorem numK_step {v n k : Nat} (h : k < n) : (bc (numK v n k)).setIfInBounds k (.int .u8 ((v : Int) / 256 ^ k % 256)) = bc (numK v n (k + 1)) := by
  rw [← numK_set h, ← bc_set]
  congr 2
  simp

theorem pow_mul_int (v k : Nat) : (v : Int) / 2 ^ (8 * k) = ((v / 256 ^ k : Nat) : Int) := by
  rw [show 256 ^ k = 2 ^ (8 * k) by rw [Nat.pow_mul]]
  simp

set_option maxHeartbeats 400000 in
theorem num_ok (v n : Nat) (_hv : v < 18446744073709551616) (hn : n ≤ 8) (hfit : n = 8 ∨ v < 256 ^ n) (w : World) :
    Calls Tryz.prog 132 #[.int .u64 v, .int .i64 n] w fun e w' => e = .returned (.tuple #[.string (bs (bytesLE v n)), .int .i64 0]) ∧ Below w.heap.size w w' := by
  have hmk := run_make_row' (P := Tryz.prog) 137 5 (.int .u8 0) 1 Tryz.underlying137 Tryz.infoU8 rfl .i64 .i64 n (by omega) (by omega)
  rw [made_bytes n v] at hmk
  have hsh : n < 8 → ((v : Int) / 2 ^ (8 * n) != 0) = false := by
    intro h
    have hp : v < 256 ^ n := by rcases hfit with e | e <;> omega
    have : (v : Int) / 2 ^ (8 * n) = 0 := by
      have e1 : v / 2 ^ (8 * n) = 0 := Nat.div_eq_of_lt (by rw [Nat.pow_mul]; exact hp)
      have := congrArg (Int.ofNat) e1
      simpa using this
    rw [this]; rfl
  have hbyte : ∀ k, IntKind.u8.wrap ((v : Int) / 2 ^ (8 * k)) = ((UInt8.ofNat (v / 256 ^ k % 256)).toNat : Int) := by
    intro k
    rw [IntKind.wrap_u8', pow_mul_int v k]
    simp
  have hback := fun (W : World) (h : ∀ j (hj : j < (bytesLE v n).length), W.cell? ((⟨w.heap.size, 0, none⟩ : Addr).add j) = some (.int .u8 ((bytesLE v n)[j].toNat : Int))) => run_convert_bytes_back (P := Tryz.prog) W 137 9 5 ⟨w.heap.size, 0, none⟩ n (bytesLE v n) Tryz.underlying137 Tryz.underlying5 Tryz.underlying9 h
  have hback' : (convert 137 9 (.slice (some ⟨w.heap.size, 0, none⟩) n n)).run Tryz.prog (w.alloc (.cells (bc (bytesLE v n)) 5)) = .ok (.string (bs (bytesLE v n))) (w.alloc (.cells (bc (bytesLE v n)) 5)) := by
    have := hback (w.alloc (.cells (bc (bytesLE v n)) 5)) (fun j hj => by
      rw [Addr.add_lit, Nat.zero_add, cl_of (hp_new w _ rfl), bc_get hj])
    rw [bytesLE_length] at this
    exact this
  clear hback
  rcases Nat.lt_or_ge n 8 with h8 | h8
  all_goals
    try (have hs := hsh h8)
    clear hsh
    go_enter Tryz.func132, Tryz.ntmps132
    go_wp2_with fail
    go_loopw [28] (fun i wr => ∃ k : Nat, k ≤ n ∧ i = .int .i64 k ∧ wr = w.alloc (.cells (bc (numK v n k)) 5)) (fun i _ => n - (intOf i).toNat)
    case atStart => exact ⟨0, by omega, rfl, rfl⟩
    case round =>
      obtain ⟨k, hk, rfl, rfl⟩ := hrel
      by_cases hlt : k < n
      · have hb := hbyte k
        have hkl : k < (numK v n k).length := by rw [numK_length hk]; exact hlt
        have hg := bc_get hkl
        go_wp2_with fail
        go_roundw
        case rel => exact ⟨k + 1, by omega, by go_num, by rw [numK_step hlt]⟩
        case measure => simp [intOf]; omega
      · obtain rfl : k = n := by omega
        have HC := hback'
        rw [← numK_all] at HC
        go_wp2_with fail
        go_ret2
        exact ⟨by rw [← numK_all v k]; rfl, (Below.refl _ _).alloc (Nat.le_refl _) _⟩

set_option maxHeartbeats 400000 in
/-- .. and what has no such bytes has none. -/
theorem num_no (v : Nat) (n : Int) (_hv : v < 18446744073709551616) (hn : -9223372036854775808 ≤ n) (hn' : n ≤ 9223372036854775807) (hfit : n < 0 ∨ 8 < n ∨ (n < 8 ∧ 256 ^ n.toNat ≤ v)) (w : World) :
    Calls Tryz.prog 132 #[.int .u64 v, .int .i64 n] w fun e w' => e = .returned (.tuple #[.string (bs []), .int .i64 2]) ∧ w' = w := by
  by_cases h0 : n < 0
  · go_enter Tryz.func132, Tryz.ntmps132
    go_wp2_with fail
    go_ret2
    exact ⟨rfl, rfl⟩
  · by_cases h8 : 8 < n
    · go_enter Tryz.func132, Tryz.ntmps132
      go_wp2_with fail
      go_ret2
      exact ⟨rfl, rfl⟩
    · obtain ⟨m, rfl⟩ := Int.eq_ofNat_of_zero_le (Int.not_lt.1 h0)
      have hm : m < 8 ∧ 256 ^ m ≤ v := by
        rcases hfit with h | h | ⟨h, k⟩
        · omega
        · omega
        · exact ⟨by omega, by simpa using k⟩
      have hs : ((v : Int) / 2 ^ (8 * m) != 0) = true := by
        rw [pow_mul_int, bne_iff_ne]
        have := Nat.div_pos hm.2 (Nat.pow_pos (by decide))
        omega
      have hm8 := hm.1
      clear hm hfit
      go_enter Tryz.func132, Tryz.ntmps132
      go_wp2_with fail
      go_ret2
      exact ⟨rfl, rfl⟩
end Go.Proofs.YtjjphcnoegaimaaGreat

namespace Go.Proofs.YtjjphcnoegaimaaGreat
open Go.RowKit

def zeros (n : Nat) : List UInt8 := List.replicate n 0
theorem zeros_length (n : Nat) : (zeros n).length = n := by simp [zeros]
theorem made_zeros (n : Nat) : madeCells #[Value.int .u8 0] n = bc (zeros n) := by
  apply Array.ext'
  simp [madeCells, bc, zeros, Array.toList_range]
  apply List.ext_getElem <;> simp [Nat.mod_one]
theorem make_zeros (n : Nat) (hn : n ≤ 1000000) (w : World) : (Instr.makeSlice 137 (.int .i64 n) (.int .i64 n)).run Tryz.prog w = .ok (.slice (some ⟨w.heap.size, 0, none⟩) n n) (w.alloc (.cells (bc (zeros n)) 5)) := by
  have h := run_make_row' (P := Tryz.prog) 137 5 (.int .u8 0) 1 Tryz.underlying137 Tryz.infoU8 rfl .i64 .i64 n (by omega) (by omega) w
  rw [made_zeros] at h
  exact h
theorem conv_new (l : List UInt8) (n : Nat) (hn : l.length = n) (w : World) : (convert 137 9 (.slice (some ⟨w.heap.size, 0, none⟩) n n)).run Tryz.prog (w.alloc (.cells (bc l) 5)) = .ok (.string (bs l)) (w.alloc (.cells (bc l) 5)) := by
  subst hn
  exact run_convert_bytes_back (P := Tryz.prog) (w.alloc (.cells (bc l) 5)) 137 9 5 ⟨w.heap.size, 0, none⟩ l.length l Tryz.underlying137 Tryz.underlying5 Tryz.underlying9 (fun j hj => by
    rw [Addr.add_lit, Nat.zero_add, cl_of (hp_new w _ rfl), bc_get hj])

theorem num_any' (v n : Int) (h0 : 0 ≤ v) (hv : v < 18446744073709551616) (hn : 0 ≤ n) (hn8 : n ≤ 8) (hfit : n = 8 ∨ v.toNat < 256 ^ n.toNat) (w : World) :
    Calls Tryz.prog 132 #[.int .u64 v, .int .i64 n] w fun e w' => e = .returned (.tuple #[.string (bs (bytesLE v.toNat n.toNat)), .int .i64 0]) ∧ Below w.heap.size w w' := by
  obtain ⟨v, rfl⟩ := Int.eq_ofNat_of_zero_le h0
  obtain ⟨n, rfl⟩ := Int.eq_ofNat_of_zero_le hn
  exact num_ok v n (by omega) (by omega) (by rcases hfit with h | h; exact .inl (by omega); exact .inr (by simpa using h)) w

theorem bs_toList' (l : List UInt8) : (bs l).toList = l := by rw [Go.ByteArray.toList_eq]; simp [bs]
theorem bs_take' (l : List UInt8) (k : Nat) : (bs l).extract 0 k = bs (l.take k) := by
  apply ByteArray.ext
  simp [bs, ByteArray.data_extract]
theorem bs_extract (l : List UInt8) (i k : Nat) : (bs l).extract i k = bs ((l.take k).drop i) := by
  apply ByteArray.ext
  simp only [bs, ByteArray.data_extract]
  apply Array.ext'
  simp
  rw [List.take_drop]
  by_cases h : i ≤ k
  · rw [show i + (k - i) = k by omega]
  · rw [List.drop_eq_nil_of_le (by simp; omega), List.drop_eq_nil_of_le (by simp; omega)]
theorem bs_eq' {a b : List UInt8} (h : a = b) : ((bs a).toList == (bs b).toList) = true := by rw [h]; simp
theorem bs_ne' {a b : List UInt8} (h : ¬ a = b) : ((bs a).toList == (bs b).toList) = false := by
  rw [bs_toList', bs_toList']; simpa using h
end Go.Proofs.YtjjphcnoegaimaaGreat

namespace Go.Proofs.YtjjphcnoegaimaaGreat
open Go.RowKit

theorem take_snoc (s : ByteArray) (k : Nat) (h : k < s.size) : s.data.toList.take (k + 1) = s.data.toList.take k ++ [s[k]] := by
  rw [List.take_succ_eq_append_getElem (by simpa using h)]; rfl
theorem le_snoc (l : List UInt8) (b : UInt8) : le (l ++ [b]) = le l + 256 ^ l.length * b.toNat := by rw [le_append]; simp [le]

theorem or_step {x k b : Nat} (hx : x < 256 ^ k) (hk : k < 8) (hb : b < 256) : bits .or .u64 (x : Int) (IntKind.u64.wrap (IntKind.u64.wrap (b : Int) * 2 ^ (8 * k))) = ((x + 256 ^ k * b : Nat) : Int) := by
  have e1 : IntKind.u64.wrap (b : Int) = b := IntWalk.u64_in _ (by omega)
  have h8 : 256 ^ (k + 1) ≤ 256 ^ 8 := Nat.pow_le_pow_right (by decide) (by omega)
  have h9 : 256 ^ k * b + 256 ^ k ≤ 256 ^ (k + 1) := by rw [Nat.pow_succ, ← Nat.mul_succ]; exact Nat.mul_le_mul_left _ (by omega)
  have h64 : (256 : Nat) ^ 8 = 18446744073709551616 := by decide
  have e2 : (b : Int) * 2 ^ (8 * k) = ((256 ^ k * b : Nat) : Int) := by
    rw [Int.natCast_mul, Int.natCast_pow, Int.mul_comm, Int.pow_mul]; rfl
  have h0 : 0 < 256 ^ k := Nat.pow_pos (by decide)
  rw [e1, e2, IntWalk.u64_in _ (by omega), u64_or_nat _ _ (by omega) (by omega)]
  congr 1
  rw [show 256 ^ k = 2 ^ (8 * k) by rw [Nat.pow_mul]] at hx ⊢
  rw [Nat.or_comm, ← Nat.two_pow_add_eq_or_of_lt hx, Nat.add_comm]

set_option maxHeartbeats 400000 in
theorem get_go (s : ByteArray) (hs : s.size ≤ 8) (w : World) :
    Calls Tryz.prog 113 #[.string s] w fun e w' => e = .returned (.tuple #[.int .u64 (le s.data.toList : Nat), .int .i64 0]) ∧ w = w' := by
  go_enter Tryz.func113, Tryz.ntmps113
  go_wp2_with fail
  go_loop [2, 10] (fun v i => ∃ k x : Nat, k ≤ s.size ∧ i = .int .i64 k ∧ v = .int .u64 x ∧ Hid (x = le (s.data.toList.take k)) ∧ x < 256 ^ k) (fun _ i => s.size - (intOf i).toNat)
  case atStart => exact ⟨0, 0, by omega, rfl, rfl, rfl, by decide⟩
  case round =>
    obtain ⟨k, x, hk, rfl, rfl, HX, hx⟩ := hrel
    by_cases hlt : k < s.size
    · go_wp2_with fail
      go_round
      case rel =>
        have hb := s[k].toNat_lt
        have hl : (s.data.toList.take k).length = k := by rw [List.length_take]; simp; omega
        refine ⟨k + 1, x + 256 ^ k * s[k].toNat, by omega, by go_num, by rw [or_step hx (by omega) (by omega)], Lib.hid ?_, ?_⟩
        · rw [take_snoc s k hlt, le_snoc, HX.out, hl]
        · have : 256 ^ k * s[k].toNat + 256 ^ k ≤ 256 ^ (k + 1) := by rw [Nat.pow_succ, ← Nat.mul_succ]; exact Nat.mul_le_mul_left _ (by omega)
          omega
      case measure => simp [intOf]; omega
    · obtain rfl : k = s.size := by omega
      go_wp2_with fail
      go_ret2
      exact ⟨by rw [HX.out, List.take_of_length_le (by simp)]; rfl, rfl⟩
theorem get_bs (l : List UInt8) (hl : l.length ≤ 8) (w : World) :
    Calls Tryz.prog 113 #[.string (bs l)] w fun e w' => e = .returned (.tuple #[.int .u64 (le l : Nat), .int .i64 0]) ∧ w = w' := by
  have h := get_go (bs l) (by rw [bs_size]; exact hl) w
  rw [bs_data] at h
  exact h
end Go.Proofs.YtjjphcnoegaimaaGreat
