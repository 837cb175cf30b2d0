/- math/bits.Div64 in plain numbers: a guess of a digit of a quotient, and how it is put right. -/
set_option linter.unusedVariables false
namespace Go.Proofs.YtgdlkpfkaehebaaGreatDoor.Nk

/-- what the loop keeps -/
structure Inv (y1 y0 u v q r : Nat) : Prop where
  rest : u = q * y1 + r
  atm : (u * 4294967296 + v) / (y1 * 4294967296 + y0) ≤ q
  top : q ≤ 4294967297
  low : r < 4294967296

theorem start (y1 y0 u v : Nat) (h1 : 2147483648 ≤ y1) (h1' : y1 < 4294967296) (h0 : y0 < 4294967296) (hu : u < y1 * 4294967296 + y0) (hv : v < 4294967296) : Inv y1 y0 u v (u / y1) (u - u / y1 * y1) := by
  have hp : 0 < y1 := by omega
  have hm : u / y1 * y1 + u % y1 = u := by rw [Nat.mul_comm]; exact Nat.div_add_mod u y1
  have hr : u % y1 < y1 := Nat.mod_lt _ hp
  refine ⟨by omega, ?_, ?_, by omega⟩
  · refine Nat.le_of_lt_succ ((Nat.div_lt_iff_lt_mul (by omega)).2 ?_)
    have h2 : u < (u / y1 + 1) * y1 := by rw [Nat.add_mul, Nat.one_mul]; omega
    have h3 : (u + 1) * 4294967296 ≤ (u / y1 + 1) * y1 * 4294967296 := Nat.mul_le_mul_right _ h2
    have h4 : (u / y1).succ * (y1 * 4294967296 + y0) = (u / y1 + 1) * y1 * 4294967296 + (u / y1 + 1) * y0 := by rw [Nat.succ_eq_add_one, Nat.mul_add, Nat.mul_assoc]
    rw [h4]
    have h5 : 0 ≤ (u / y1 + 1) * y0 := Nat.zero_le _
    omega
  · refine Nat.le_of_lt_succ ((Nat.div_lt_iff_lt_mul hp).2 ?_)
    have : Nat.succ 4294967297 * y1 = y1 * 4294967296 + y1 + y1 := by omega
    omega

theorem over_gt (y1 y0 u v q r : Nat) (hu : u < y1 * 4294967296 + y0) (hv : v < 4294967296) (hi : Inv y1 y0 u v q r) (ho : 4294967296 ≤ q ∨ 4294967296 * r + v < q * y0) :
    (u * 4294967296 + v) / (y1 * 4294967296 + y0) < q := by
  refine (Nat.div_lt_iff_lt_mul (by omega)).2 ?_
  have e : q * (y1 * 4294967296 + y0) = q * y1 * 4294967296 + q * y0 := by rw [Nat.mul_add, Nat.mul_assoc]
  have hr := hi.rest
  rcases ho with ho | ho
  · have h2 : 4294967296 * (y1 * 4294967296 + y0) ≤ q * (y1 * 4294967296 + y0) := Nat.mul_le_mul_right _ ho
    omega
  · rw [e]
    omega

/-- the loop goes on -/
theorem step (y1 y0 u v q r : Nat) (h1 : 2147483648 ≤ y1) (hu : u < y1 * 4294967296 + y0) (hv : v < 4294967296) (hi : Inv y1 y0 u v q r) (ho : 4294967296 ≤ q ∨ 4294967296 * r + v < q * y0) (hl : r + y1 < 4294967296) :
    1 ≤ q ∧ Inv y1 y0 u v (q - 1) (r + y1) := by
  have hg := over_gt y1 y0 u v q r hu hv hi ho
  have hg0 : 0 < q := Nat.lt_of_le_of_lt (Nat.zero_le _) hg
  obtain ⟨k, rfl⟩ : ∃ k, q = k + 1 := ⟨q - 1, by omega⟩
  refine ⟨by omega, ?_, by simpa using Nat.le_of_lt_succ hg, by have := hi.top; omega, hl⟩
  have := hi.rest
  rw [Nat.add_mul, Nat.one_mul] at this
  simp only [Nat.add_sub_cancel]
  omega

theorem exact_ (y1 y0 u v q r : Nat) (h1 : 2147483648 ≤ y1) (hr : u = q * y1 + r) (hq : (u * 4294967296 + v) / (y1 * 4294967296 + y0) ≤ q) (hy : q * y0 ≤ 4294967296 * r + v) :
    q = (u * 4294967296 + v) / (y1 * 4294967296 + y0) := by
  refine Nat.le_antisymm ?_ hq
  refine (Nat.le_div_iff_mul_le (by omega)).2 ?_
  rw [Nat.mul_add, ← Nat.mul_assoc]
  omega

/-- the loop ends at its test -/
theorem stop (y1 y0 u v q r : Nat) (h1 : 2147483648 ≤ y1) (hi : Inv y1 y0 u v q r) (ho : ¬ (4294967296 ≤ q ∨ 4294967296 * r + v < q * y0)) : q = (u * 4294967296 + v) / (y1 * 4294967296 + y0) :=
  exact_ y1 y0 u v q r h1 hi.rest hi.atm (by omega)

/-- the loop ends in its middle -/
theorem brk (y1 y0 u v q r : Nat) (h1 : 2147483648 ≤ y1) (h0 : y0 < 4294967296) (hu : u < y1 * 4294967296 + y0) (hv : v < 4294967296) (hi : Inv y1 y0 u v q r) (ho : 4294967296 ≤ q ∨ 4294967296 * r + v < q * y0) (hl : 4294967296 ≤ r + y1) :
    1 ≤ q ∧ q - 1 = (u * 4294967296 + v) / (y1 * 4294967296 + y0) := by
  have hg := over_gt y1 y0 u v q r hu hv hi ho
  have ht := hi.top
  have hr := hi.rest
  have hg0 : 0 < q := Nat.lt_of_le_of_lt (Nat.zero_le _) hg
  obtain ⟨k, rfl⟩ : ∃ k, q = k + 1 := ⟨q - 1, by omega⟩
  rw [Nat.add_mul, Nat.one_mul] at hr
  refine ⟨by omega, ?_⟩
  refine exact_ y1 y0 u v k (r + y1) h1 (by omega) (Nat.le_of_lt_succ hg) ?_
  have h2 : k * y0 ≤ 4294967296 * y0 := Nat.mul_le_mul_right _ (by omega)
  omega

/-- a guess is no greater than this -/
theorem guess_le (y1 y0 u v q r : Nat) (hi : Inv y1 y0 u v q r) : q ≤ 4294967297 := hi.top

/-- the two digits of the quotient -/
theorem two (y u v w : Nat) (hy : 0 < y) : ((u * 4294967296 + v) / y * 4294967296 + ((u * 4294967296 + v) % y * 4294967296 + w) / y) = ((u * 4294967296 + v) * 4294967296 + w) / y ∧
    ((u * 4294967296 + v) % y * 4294967296 + w) % y = ((u * 4294967296 + v) * 4294967296 + w) % y := by
  have e : (u * 4294967296 + v) * 4294967296 + w = ((u * 4294967296 + v) % y * 4294967296 + w) + y * ((u * 4294967296 + v) / y * 4294967296) := by
    have := Nat.div_add_mod (u * 4294967296 + v) y
    have h2 : (u * 4294967296 + v) * 4294967296 = (y * ((u * 4294967296 + v) / y) + (u * 4294967296 + v) % y) * 4294967296 := by rw [this]
    rw [h2, Nat.add_mul, Nat.mul_assoc]
    omega
  rw [e, Nat.add_mul_div_left _ _ hy, Nat.add_mul_mod_self_left]
  exact ⟨Nat.add_comm _ _, rfl⟩

/-- moved up: the quotient is the same, the rest is moved -/
theorem shifted (a y s : Nat) : (a * 2 ^ s) / (y * 2 ^ s) = a / y ∧ (a * 2 ^ s) % (y * 2 ^ s) = a % y * 2 ^ s :=
  ⟨Nat.mul_div_mul_right _ _ (Nat.pow_pos (by omega)), Nat.mul_mod_mul_right _ _ _⟩
end Go.Proofs.YtgdlkpfkaehebaaGreatDoor.Nk
