/- The plain mathematics of the sum: half steps, tables, linearity. No program in sight. -/
namespace Go.Proofs.Ytjkjcimoeohijaa.Crc

/-- one bit of the sum -/
def half (n : Nat) : Nat := (n / 2) ^^^ (if n % 2 = 1 then 3988292384 else 0)
def halves : Nat → Nat → Nat
  | 0, n => n
  | k + 1, n => halves k (half n)
/-- one byte of the sum -/
def byte (n c : Nat) : Nat := halves 8 (n ^^^ c)
def run (n : Nat) (l : List UInt8) : Nat := l.foldl (fun n c => byte n c.toNat) n
def crc (l : List UInt8) : Nat := run 4294967295 l ^^^ 4294967295

theorem half_lt {n : Nat} (h : n < 4294967296) : half n < 4294967296 := by
  unfold half
  have : n / 2 < 2 ^ 32 := by omega
  have h2 : (if n % 2 = 1 then 3988292384 else 0) < 2 ^ 32 := by split <;> omega
  exact Nat.xor_lt_two_pow this h2

theorem halves_lt (k : Nat) : ∀ {n : Nat}, n < 4294967296 → halves k n < 4294967296 := by
  induction k with
  | zero => intro n h; exact h
  | succ k ih => intro n h; exact ih (half_lt h)

theorem halves_succ (k : Nat) : ∀ n, halves (k + 1) n = half (halves k n) := by
  induction k with
  | zero => intro n; rfl
  | succ k ih => intro n; show halves (k + 1) (half n) = _; rw [ih]; rfl

theorem halves_add (j k : Nat) : ∀ n, halves (j + k) n = halves k (halves j n) := by
  induction j with
  | zero => intro n; simp [halves]
  | succ j ih => intro n; rw [show j + 1 + k = (j + k) + 1 from by omega]; show halves (j + k) (half n) = _; rw [ih]; rfl

theorem byte_lt {n c : Nat} (h : n < 4294967296) (hc : c < 256) : byte n c < 4294967296 :=
  halves_lt 8 (Nat.xor_lt_two_pow (n := 32) (by omega) (by omega))

theorem run_lt (l : List UInt8) : ∀ {n : Nat}, n < 4294967296 → run n l < 4294967296 := by
  induction l with
  | nil => intro n h; exact h
  | cons c l ih => intro n h; exact ih (byte_lt h (by have := c.toNat_lt; omega))

theorem crc_lt (l : List UInt8) : crc l < 4294967296 :=
  Nat.xor_lt_two_pow (n := 32) (run_lt l (by omega)) (by omega)

theorem run_snoc (n : Nat) (l : List UInt8) (c : UInt8) : run n (l ++ [c]) = byte (run n l) c.toNat := by
  unfold run; rw [List.foldl_append]; rfl

theorem xor_div2 (a b : Nat) : (a ^^^ b) / 2 = (a / 2) ^^^ (b / 2) := by
  have := Nat.shiftRight_xor_distrib (a := a) (b := b) (i := 1)
  simpa [Nat.shiftRight_eq_div_pow] using this

theorem xor_mod2 (a b : Nat) : (a ^^^ b) % 2 = (a % 2 + b % 2) % 2 := by
  have h := Nat.testBit_xor a b 0
  simp only [Nat.testBit_zero] at h
  rcases Nat.mod_two_eq_zero_or_one a with ha | ha <;> rcases Nat.mod_two_eq_zero_or_one b with hb | hb <;>
    rcases Nat.mod_two_eq_zero_or_one (a ^^^ b) with hc | hc <;> simp [ha, hb, hc] at h ⊢

theorem half_xor (a b : Nat) : half (a ^^^ b) = half a ^^^ half b := by
  unfold half
  rw [xor_div2, xor_mod2]
  rcases Nat.mod_two_eq_zero_or_one a with ha | ha <;> rcases Nat.mod_two_eq_zero_or_one b with hb | hb <;>
    simp only [ha, hb, Nat.reduceAdd, Nat.reduceMod, Nat.zero_mod, if_true, Nat.zero_ne_one, if_false, Nat.xor_zero, Nat.one_mod]
  · rw [Nat.xor_assoc]
  · rw [Nat.xor_assoc, Nat.xor_assoc, Nat.xor_comm 3988292384]
  · rw [show a / 2 ^^^ 3988292384 ^^^ (b / 2 ^^^ 3988292384) = a / 2 ^^^ b / 2 ^^^ (3988292384 ^^^ 3988292384) from by
      rw [Nat.xor_assoc, Nat.xor_assoc, Nat.xor_comm 3988292384 (b / 2 ^^^ 3988292384), Nat.xor_assoc]]
    simp

theorem halves_xor (k : Nat) : ∀ a b, halves k (a ^^^ b) = halves k a ^^^ halves k b := by
  induction k with
  | zero => intro a b; rfl
  | succ k ih => intro a b; show halves k (half (a ^^^ b)) = _; rw [half_xor, ih]; rfl

theorem half_even (m : Nat) : half (2 * m) = m := by
  unfold half
  rw [show 2 * m / 2 = m from by omega, show 2 * m % 2 = 0 from by omega]
  simp

theorem halves_four (m : Nat) : halves 4 (16 * m) = m := by
  show half (half (half (half (16 * m)))) = m
  rw [show 16 * m = 2 * (2 * (2 * (2 * m))) from by omega]
  simp only [half_even]

theorem split16 (n : Nat) : n = 16 * (n / 16) ^^^ n % 16 := by
  have h : 16 * (n / 16) ^^^ n % 16 = 16 * (n / 16) + n % 16 := by
    rw [show 16 * (n / 16) = 2 ^ 4 * (n / 16) from rfl]
    have := Nat.two_pow_add_eq_or_of_lt (i := 4) (b := n % 16) (by omega) (n / 16)
    rw [this]
    apply Nat.eq_of_testBit_eq
    intro i
    rw [Nat.testBit_xor, Nat.testBit_or, Nat.testBit_two_pow_mul]
    by_cases hi : i < 4
    · simp [Nat.not_le.2 hi]
    · have : (n % 16).testBit i = false := Nat.testBit_lt_two_pow (Nat.lt_of_lt_of_le (by omega : n % 16 < 2 ^ 4) (Nat.pow_le_pow_right (by omega) (by omega)))
      rw [this]; simp
  omega

/-- half a byte at a time, by the table -/
theorem nib (n : Nat) : (n / 16) ^^^ halves 4 (n % 16) = halves 4 n := by
  conv => rhs; rw [split16 n, halves_xor, halves_four]

theorem byte_nibs (n c : Nat) : halves 4 (halves 4 (n ^^^ c)) = byte n c := (halves_add 4 4 _).symm

end Go.Proofs.Ytjkjcimoeohijaa.Crc
