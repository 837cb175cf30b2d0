/- Plain: a burst of at most 32 turned bits turns the sum. No program in sight. -/
import Derived.Test.YtjkjcimoeohijaaCrc
namespace Go.Proofs.Ytjkjcimoeohijaa.Crc

/-- the number that a text is, the lowest byte first -/
def val : List UInt8 → Nat
  | [] => 0
  | c :: l => c.toNat + 256 * val l

theorem halves_256 (m : Nat) : halves 8 (256 * m) = m := by
  rw [show (8 : Nat) = 4 + 4 from rfl, halves_add, show 256 * m = 16 * (16 * m) from by omega, halves_four, halves_four]

theorem add_xor (c m : Nat) (hc : c < 256) : c + 256 * m = c ^^^ 256 * m := by
  rw [show 256 * m = 2 ^ 8 * m from rfl, Nat.add_comm, Nat.two_pow_add_eq_or_of_lt (by omega)]
  apply Nat.eq_of_testBit_eq
  intro i
  rw [Nat.testBit_xor, Nat.testBit_or, Nat.testBit_two_pow_mul]
  by_cases hi : i < 8
  · simp [Nat.not_le.2 hi]
  · have : c.testBit i = false := Nat.testBit_lt_two_pow (Nat.lt_of_lt_of_le (show c < 2 ^ 8 by omega) (Nat.pow_le_pow_right (by omega) (by omega)))
    rw [this]; simp

theorem run_val : ∀ (l : List UInt8) (n : Nat), run n l = halves (8 * l.length) (n ^^^ val l) := by
  intro l
  induction l with
  | nil => intro n; simp [run, val, halves]
  | cons c l ih =>
    intro n
    show run (byte n c.toNat) l = _
    rw [ih, val, List.length_cons, show 8 * (l.length + 1) = 8 + 8 * l.length from by omega, halves_add]
    congr 1
    have hc := c.toNat_lt
    rw [add_xor _ _ (by omega), ← Nat.xor_assoc, halves_xor 8 (n ^^^ c.toNat), halves_256]
    rfl

theorem half_zero {n : Nat} (h : half n = 0) (hn : n < 4294967296) : n = 0 := by
  unfold half at h
  by_cases hm : n % 2 = 1
  · rw [if_pos hm] at h
    have : (n / 2 ^^^ 3988292384) ^^^ 3988292384 = 3988292384 := by rw [h, Nat.zero_xor]
    rw [Nat.xor_assoc, Nat.xor_self, Nat.xor_zero] at this
    omega
  · rw [if_neg hm, Nat.xor_zero] at h
    omega

theorem halves_zero : ∀ (k : Nat) {n : Nat}, halves k n = 0 → n < 4294967296 → n = 0 := by
  intro k
  induction k with
  | zero => intro n h _; exact h
  | succ k ih => intro n h hn; exact half_zero (ih h (half_lt hn)) hn

theorem halves_shift : ∀ (p : Nat) (w : Nat), halves p (2 ^ p * w) = w := by
  intro p
  induction p with
  | zero => intro w; simp [halves]
  | succ p ih =>
    intro w
    show halves p (half (2 ^ (p + 1) * w)) = w
    rw [show 2 ^ (p + 1) * w = 2 * (2 ^ p * w) from by rw [Nat.pow_succ]; rw [Nat.mul_assoc, Nat.mul_left_comm], half_even, ih]

/-- a text whose bits differ from another's in a burst of at most 32 has another sum -/
theorem run_burst (a b : List UInt8) (n p w : Nat) (hl : a.length = b.length) (hv : val a ^^^ val b = 2 ^ p * w) (hp : p ≤ 8 * a.length) (hw : w < 4294967296) (h0 : w ≠ 0) : run n a ≠ run n b := by
  intro h
  rw [run_val, run_val, ← hl] at h
  have e : halves (8 * a.length) (val a ^^^ val b) = 0 := by
    have : val a ^^^ val b = (n ^^^ val a) ^^^ (n ^^^ val b) := by
      rw [Nat.xor_comm n (val a), Nat.xor_assoc, ← Nat.xor_assoc n n, Nat.xor_self, Nat.zero_xor]
    rw [this, halves_xor, h, Nat.xor_self]
  rw [hv, show 8 * a.length = p + (8 * a.length - p) from by omega, halves_add, halves_shift] at e
  exact h0 (halves_zero _ e hw)

theorem crc_burst (a b : List UInt8) (p w : Nat) (hl : a.length = b.length) (hv : val a ^^^ val b = 2 ^ p * w) (hp : p ≤ 8 * a.length) (hw : w < 4294967296) (h0 : w ≠ 0) : crc a ≠ crc b := by
  intro h
  unfold crc at h
  have := congrArg (fun x => x ^^^ 4294967295) h
  simp only [Nat.xor_assoc, Nat.xor_self, Nat.xor_zero] at this
  exact run_burst a b 4294967295 p w hl hv hp hw h0 this

end Go.Proofs.Ytjkjcimoeohijaa.Crc
