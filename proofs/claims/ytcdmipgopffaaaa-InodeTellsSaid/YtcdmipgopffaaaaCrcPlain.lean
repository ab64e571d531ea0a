/- The plain mathematics of the sum: registers of 32 bits as natural numbers, bit by bit. No program in sight. -/
import Derived.Lib.Hide
namespace Go.Proofs.Ytcdmipgopffaaaa

/-- One bit of a register. -/
def st (x : Nat) : Nat := if x % 2 = 1 then (x / 2) ^^^ 3988292384 else x / 2

def stn : Nat → Nat → Nat
  | 0, x => x
  | n + 1, x => stn n (st x)

theorem st_lt {x : Nat} (h : x < 4294967296) : st x < 4294967296 := by
  unfold st
  split
  · exact Nat.xor_lt_two_pow (n := 32) (by omega) (by decide)
  · omega

theorem st_even (x : Nat) : st (2 * x) = x := by
  unfold st
  rw [if_neg (by omega)]
  omega

theorem xor_assoc4 (a b c d : Nat) : (a ^^^ b) ^^^ (c ^^^ d) = (a ^^^ c) ^^^ (b ^^^ d) := by
  rw [Nat.xor_assoc, Nat.xor_assoc, ← Nat.xor_assoc b, ← Nat.xor_assoc c, Nat.xor_comm b c]

theorem st_xor (x y : Nat) : st (x ^^^ y) = st x ^^^ st y := by
  have h := @Nat.xor_mod_two_eq_one x y
  have hd : (x ^^^ y) / 2 = x / 2 ^^^ y / 2 := by
    have := @Nat.shiftRight_xor_distrib 1 x y
    simpa [Nat.shiftRight_eq_div_pow] using this
  unfold st
  rw [hd]
  by_cases hx : x % 2 = 1 <;> by_cases hy : y % 2 = 1
  · rw [if_neg (by rw [h]; simp [hx, hy]), if_pos hx, if_pos hy, xor_assoc4, Nat.xor_self, Nat.xor_zero]
  · rw [if_pos (by rw [h]; simp [hx, hy]), if_pos hx, if_neg hy, Nat.xor_assoc, Nat.xor_comm (y / 2), ← Nat.xor_assoc]
  · rw [if_pos (by rw [h]; simp [hx, hy]), if_neg hx, if_pos hy, Nat.xor_assoc]
  · rw [if_neg (by rw [h]; simp [hx, hy]), if_neg hx, if_neg hy]

theorem st_zero : st 0 = 0 := by decide

theorem st_ne {x : Nat} (h : x < 4294967296) (h0 : x ≠ 0) : st x ≠ 0 := by
  unfold st
  split
  · intro e
    have e' : x / 2 = 3988292384 := by
      have := congrArg (· ^^^ 3988292384) e
      simpa [Nat.xor_assoc] using this
    omega
  · omega

theorem stn_xor (n : Nat) : ∀ x y, stn n (x ^^^ y) = stn n x ^^^ stn n y := by
  induction n with
  | zero => intro x y; rfl
  | succ n ih => intro x y; simp only [stn, st_xor, ih]

theorem stn_zero (n : Nat) : stn n 0 = 0 := by
  induction n with
  | zero => rfl
  | succ n ih => simp only [stn, st_zero, ih]

theorem stn_lt (n : Nat) : ∀ {x}, x < 4294967296 → stn n x < 4294967296 := by
  induction n with
  | zero => intro x h; exact h
  | succ n ih => intro x h; exact ih (st_lt h)

theorem stn_ne (n : Nat) : ∀ {x}, x < 4294967296 → x ≠ 0 → stn n x ≠ 0 := by
  induction n with
  | zero => intro x _ h; exact h
  | succ n ih => intro x h h0; exact ih (st_lt h) (st_ne h h0)

theorem stn_add (n m : Nat) : ∀ x, stn (n + m) x = stn m (stn n x) := by
  induction n with
  | zero => intro x; rw [Nat.zero_add]; rfl
  | succ n ih => intro x; rw [Nat.add_right_comm]; exact ih _

theorem stn_shift (n : Nat) : ∀ x, stn n (2 ^ n * x) = x := by
  induction n with
  | zero => intro x; simp [stn]
  | succ n ih =>
    intro x
    have : 2 ^ (n + 1) * x = 2 * (2 ^ n * x) := by rw [Nat.pow_succ, Nat.mul_comm (2 ^ n) 2, Nat.mul_assoc]
    rw [stn, this, st_even, ih]

theorem join_xor (n a b : Nat) (h : a < 2 ^ n) : a + 2 ^ n * b = a ^^^ (2 ^ n * b) := by
  apply Nat.eq_of_testBit_eq
  intro i
  rw [Nat.testBit_xor, Nat.add_comm, Nat.testBit_two_pow_mul_add b h, Nat.testBit_two_pow_mul]
  by_cases hi : i < n
  · simp [hi, show ¬ n ≤ i by omega]
  · have : a.testBit i = false := Nat.testBit_lt_two_pow (Nat.lt_of_lt_of_le h (Nat.pow_le_pow_right (by decide) (by omega)))
    simp [hi, show n ≤ i by omega, this]

/-- A register that took a byte. -/
def upd (c b : Nat) : Nat := stn 8 (c ^^^ b)
/-- A register that took bytes. -/
def more (c : Nat) (l : List UInt8) : Nat := l.foldl (fun c b => upd c b.toNat) c

theorem upd_lt {c b : Nat} (hc : c < 4294967296) (hb : b < 256) : upd c b < 4294967296 :=
  stn_lt 8 (Nat.xor_lt_two_pow (n := 32) hc (by omega))

theorem more_nil (c : Nat) : more c [] = c := rfl
theorem more_cons (c : Nat) (b : UInt8) (l : List UInt8) : more c (b :: l) = more (upd c b.toNat) l := rfl
theorem more_append (c : Nat) (l m : List UInt8) : more c (l ++ m) = more (more c l) m := List.foldl_append ..
theorem more_snoc (c : Nat) (l : List UInt8) (b : UInt8) : more c (l ++ [b]) = upd (more c l) b.toNat := by rw [more_append]; rfl

theorem more_lt (l : List UInt8) : ∀ {c}, c < 4294967296 → more c l < 4294967296 := by
  induction l with
  | nil => intro c h; exact h
  | cons b l ih => intro c h; exact ih (upd_lt h b.toNat_lt)

/-- What the table does is what eight bits do. -/
theorem upd_table (c b : Nat) : c / 256 ^^^ stn 8 (c % 256 ^^^ b) = upd c b := by
  have e : c = c % 256 ^^^ 2 ^ 8 * (c / 256) := by
    rw [← join_xor 8 _ _ (by omega)]; omega
  unfold upd
  conv => rhs; rw [e, Nat.xor_comm (c % 256), Nat.xor_assoc, stn_xor, stn_shift]

/-- The reference's step: the register and the byte, a bit each. -/
def refC (c b : Nat) : Nat := if c % 2 = b % 2 then c / 2 else (c / 2) ^^^ 3988292384

theorem div2_xor (x y : Nat) : (x ^^^ y) / 2 = x / 2 ^^^ y / 2 := by
  have := @Nat.shiftRight_xor_distrib 1 x y
  simpa [Nat.shiftRight_eq_div_pow] using this

theorem refC_st (c b : Nat) : refC c b ^^^ (b / 2) = st (c ^^^ b) := by
  have h := @Nat.xor_mod_two_eq_one c b
  unfold refC st
  rw [div2_xor]
  by_cases e : c % 2 = b % 2
  · rw [if_pos e, if_neg (by rw [h]; omega)]
  · rw [if_neg e, if_pos (by rw [h]; omega), Nat.xor_assoc, Nat.xor_comm 3988292384, ← Nat.xor_assoc]

theorem refC_lt {c : Nat} (b : Nat) (h : c < 4294967296) : refC c b < 4294967296 := by
  unfold refC
  split
  · omega
  · exact Nat.xor_lt_two_pow (n := 32) (by omega) (by decide)

def refN : Nat → Nat → Nat → Nat
  | 0, c, _ => c
  | k + 1, c, b => refN k (refC c b) (b / 2)

theorem refN_stn (k : Nat) : ∀ c b, refN k c b ^^^ (b / 2 ^ k) = stn k (c ^^^ b) := by
  induction k with
  | zero => intro c b; simp [refN, stn]
  | succ k ih =>
    intro c b
    have := ih (refC c b) (b / 2)
    rw [refC_st] at this
    rw [stn, ← this, refN, Nat.div_div_eq_div_mul, Nat.pow_succ, Nat.mul_comm 2]

theorem refN_upd {c b : Nat} (hb : b < 256) : refN 8 c b = upd c b := by
  have := refN_stn 8 c b
  rw [Nat.div_eq_of_lt (by omega), Nat.xor_zero] at this
  exact this

/-- One step more at the end. -/
theorem refN_succ (k : Nat) : ∀ c b, refN (k + 1) c b = refC (refN k c b) (b / 2 ^ k) := by
  induction k with
  | zero => intro c b; simp [refN]
  | succ k ih =>
    intro c b
    have h1 : refN (k + 1 + 1) c b = refN (k + 1) (refC c b) (b / 2) := rfl
    have h2 : refN (k + 1) c b = refN k (refC c b) (b / 2) := rfl
    rw [h1, h2, ih, Nat.div_div_eq_div_mul, Nat.pow_succ, Nat.mul_comm 2]

theorem refN_lt (k : Nat) : ∀ {c} b, c < 4294967296 → refN k c b < 4294967296 := by
  induction k with
  | zero => intro c b h; exact h
  | succ k ih => intro c b h; exact ih _ (refC_lt b h)

/-! ### bytes as a number, the lowest first -/
def le : List UInt8 → Nat
  | [] => 0
  | b :: l => b.toNat + 256 * le l

theorem le_lt (l : List UInt8) : le l < 256 ^ l.length := by
  induction l with
  | nil => simp [le]
  | cons b l ih =>
    have := b.toNat_lt
    simp only [le, List.length_cons, Nat.pow_succ]
    omega

theorem le_append (l m : List UInt8) : le (l ++ m) = le l + 256 ^ l.length * le m := by
  induction l with
  | nil => simp [le]
  | cons b l ih =>
    simp only [List.cons_append, le, ih, List.length_cons, Nat.pow_succ, Nat.mul_add]
    rw [Nat.add_assoc, Nat.mul_comm (256 ^ l.length) 256, Nat.mul_assoc]

theorem more_le (l : List UInt8) : ∀ c, more c l = stn (8 * l.length) (c ^^^ le l) := by
  induction l with
  | nil => intro c; simp [more, le, stn]
  | cons b l ih =>
    intro c
    rw [more_cons, ih, List.length_cons, show 8 * (l.length + 1) = 8 + 8 * l.length by omega, stn_add]
    congr 1
    have hb : b.toNat < 2 ^ 8 := b.toNat_lt
    have : le (b :: l) = b.toNat ^^^ 2 ^ 8 * le l := by rw [← join_xor 8 _ _ hb]; rfl
    rw [this, ← Nat.xor_assoc, stn_xor, stn_shift]
    rfl

/-- The bytes of a number. -/
def bytesLE : Nat → Nat → List UInt8
  | _, 0 => []
  | v, n + 1 => UInt8.ofNat (v % 256) :: bytesLE (v / 256) n

theorem bytesLE_length (n : Nat) : ∀ v, (bytesLE v n).length = n := by
  induction n with
  | zero => intro v; rfl
  | succ n ih => intro v; simp [bytesLE, ih]

theorem le_bytesLE (n : Nat) : ∀ v, le (bytesLE v n) = v % 256 ^ n := by
  induction n with
  | zero => intro v; simp [bytesLE, le, Nat.mod_one]
  | succ n ih =>
    intro v
    have h : (UInt8.ofNat (v % 256)).toNat = v % 256 := by simp
    rw [bytesLE, le, h, ih, Nat.pow_succ, Nat.mul_comm (256 ^ n), Nat.mod_mul]

theorem bytesLE_le (l : List UInt8) : bytesLE (le l) l.length = l := by
  induction l with
  | nil => rfl
  | cons b l ih =>
    have hb := b.toNat_lt
    simp only [le, List.length_cons, bytesLE]
    rw [show (b.toNat + 256 * le l) % 256 = b.toNat by omega, show (b.toNat + 256 * le l) / 256 = le l by omega, ih]
    simp

theorem bytesLE_snoc (n : Nat) : ∀ v, bytesLE v (n + 1) = bytesLE v n ++ [UInt8.ofNat (v / 256 ^ n % 256)] := by
  induction n with
  | zero => intro v; simp [bytesLE]
  | succ n ih =>
    intro v
    rw [bytesLE, ih, bytesLE, List.cons_append, Nat.div_div_eq_div_mul, Nat.pow_succ, Nat.mul_comm 256]

theorem le_inj {l m : List UInt8} (hl : l.length = m.length) (h : le l = le m) : l = m := by
  rw [← bytesLE_le l, ← bytesLE_le m, hl, h]

/-! ### sums and sealed texts -/
def ones : Nat := 4294967295
def sum (l : List UInt8) : Nat := more ones l ^^^ ones
def sealed (l : List UInt8) : List UInt8 := l ++ bytesLE (sum l) 4

theorem ones_lt : ones < 4294967296 := by decide
theorem sum_lt (l : List UInt8) : sum l < 4294967296 := Nat.xor_lt_two_pow (n := 32) (more_lt l ones_lt) ones_lt

theorem sealed_length (l : List UInt8) : (sealed l).length = l.length + 4 := by simp [sealed, bytesLE_length]

/-- Whatever is sealed: the register over all of it comes to one number. -/
theorem more_sealed (l : List UInt8) : more ones (sealed l) = stn 32 ones := by
  rw [sealed, more_append, more_le (bytesLE _ _), bytesLE_length, le_bytesLE, Nat.mod_eq_of_lt (sum_lt l)]
  rw [sum, ← Nat.xor_assoc, Nat.xor_self, Nat.zero_xor]

/-- Two sealed texts that are as long are not told apart by 32 bits in a row. -/
theorem burst {l m : List UInt8} {bits n : Nat} (hl : l.length = m.length) (h0 : bits ≠ 0) (h1 : bits < 4294967296) (hn : n + 32 ≤ 8 * (l.length + 4))
    (h : le (sealed m) = le (sealed l) ^^^ 2 ^ n * bits) : False := by
  have hL := sealed_length l
  have hM := sealed_length m
  have e : stn (8 * (l.length + 4)) (ones ^^^ le (sealed m)) = stn (8 * (l.length + 4)) (ones ^^^ le (sealed l)) := by
    have a := more_sealed m
    have b := more_sealed l
    rw [more_le, hM, ← hl] at a
    rw [more_le, hL] at b
    rw [a, b]
  rw [h, ← Nat.xor_assoc, stn_xor] at e
  have z : stn (8 * (l.length + 4)) (2 ^ n * bits) = 0 := by
    have := congrArg (stn (8 * (l.length + 4)) (ones ^^^ le (sealed l)) ^^^ ·) e
    simpa [← Nat.xor_assoc] using this
  rw [show 8 * (l.length + 4) = n + (8 * (l.length + 4) - n) by omega, stn_add, stn_shift] at z
  exact stn_ne _ h1 h0 z

/-! ### exclusive or, text by text -/
def zipx : List UInt8 → List UInt8 → List UInt8
  | a :: l, b :: m => (a ^^^ b) :: zipx l m
  | _, _ => []

theorem more_zipx (l : List UInt8) : ∀ m c d, l.length = m.length → more (c ^^^ d) (zipx l m) = more c l ^^^ more d m := by
  induction l with
  | nil => intro m c d h; cases m with | nil => rfl | cons => simp at h
  | cons a l ih =>
    intro m c d h
    cases m with
    | nil => simp at h
    | cons b m =>
      simp only [zipx, more_cons]
      rw [← ih m _ _ (by simpa using h)]
      congr 1
      unfold upd
      rw [← stn_xor, UInt8.toNat_xor, xor_assoc4]

end Go.Proofs.Ytcdmipgopffaaaa
