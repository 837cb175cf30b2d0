/- The number of bits, and a number moved up till its highest bit is set: plain. -/
import Derived.Lib.BitFns
import Derived.Laws.BitsLemmas
set_option linter.unusedVariables false
namespace Go.Proofs.YtgdlkpfkaehebaaGreatDoor.Ns
open Go

theorem aux_zero (f : Nat) : Lib.bitLenAux f 0 = 0 := by cases f <;> simp [Lib.bitLenAux]

theorem aux_spec : ∀ (f x : Nat), 0 < x → x < 2 ^ f → 1 ≤ Lib.bitLenAux f x ∧ Lib.bitLenAux f x ≤ f ∧ 2 ^ (Lib.bitLenAux f x - 1) ≤ x ∧ x < 2 ^ Lib.bitLenAux f x
  | 0, x, h0, h1 => by simp at h1; omega
  | f + 1, x, h0, h1 => by
    have hx : x ≠ 0 := by omega
    simp only [Lib.bitLenAux, if_neg hx]
    by_cases h2 : x / 2 = 0
    · rw [h2, aux_zero]
      have : x = 1 := by omega
      subst this
      simp
    · have ih := aux_spec f (x / 2) (by omega) (by rw [Nat.pow_succ] at h1; omega)
      obtain ⟨i1, i2, i3, i4⟩ := ih
      generalize Lib.bitLenAux f (x / 2) = c at *
      obtain ⟨d, rfl⟩ : ∃ d, c = d + 1 := ⟨c - 1, by omega⟩
      have e1 : 1 + (d + 1) - 1 = d + 1 := by omega
      have e2 : 1 + (d + 1) = (d + 1) + 1 := by omega
      simp only [Nat.add_sub_cancel] at i3
      rw [e1, e2]
      rw [Nat.pow_succ] at i4
      refine ⟨by omega, by omega, ?_, ?_⟩
      · rw [Nat.pow_succ]; omega
      · rw [Nat.pow_succ, Nat.pow_succ]; omega

/-- y moved up by what its bits leave of 64 -/
theorem moved (y : Nat) (h0 : 0 < y) (h1 : y < 18446744073709551616) : ∃ k : Nat, k ≤ 63 ∧ (64 - (Lib.bitLen y : Int)) = (k : Int) ∧ 9223372036854775808 ≤ y * 2 ^ k ∧ y * 2 ^ k < 18446744073709551616 := by
  obtain ⟨a, b, c, d⟩ := aux_spec 64 y h0 (by simpa using h1)
  refine ⟨64 - Lib.bitLen y, ?_, ?_, ?_, ?_⟩
  · unfold Lib.bitLen; omega
  · unfold Lib.bitLen; omega
  · unfold Lib.bitLen
    generalize Lib.bitLenAux 64 y = n at *
    have h := Nat.mul_le_mul_right (2 ^ (64 - n)) c
    rw [← Nat.pow_add, show n - 1 + (64 - n) = 63 by omega] at h
    exact h
  · unfold Lib.bitLen
    generalize Lib.bitLenAux 64 y = n at *
    have h := Nat.mul_lt_mul_of_pos_right d (Nat.pow_pos (n := 64 - n) (show 0 < 2 by decide))
    rw [← Nat.pow_add, show n + (64 - n) = 64 by omega] at h
    exact h

theorem wraps_u64 (n : Int) (h₀ : 0 ≤ n) (h₁ : n < 2 ^ 64) : IntKind.u64.wrap n = n := by
  simp only [IntKind.wrap]
  exact Int.emod_eq_of_lt h₀ (by simpa [IntKind.bits] using h₁)

/-- the high limb of what is moved up -/
theorem high (hi lo k : Nat) (hk : k ≤ 63) (hl : lo < 18446744073709551616) (hh : hi * 2 ^ k < 18446744073709551616) :
    bits .or .u64 (IntKind.u64.wrap ((hi : Int) * 2 ^ k)) ((lo : Int) / 2 ^ (64 - k)) = (((hi * 18446744073709551616 + lo) * 2 ^ k / 18446744073709551616 : Nat) : Int) := by
  have e1 : IntKind.u64.wrap ((hi : Int) * 2 ^ k) = ((hi * 2 ^ k : Nat) : Int) := by
    have : ((hi : Int) * 2 ^ k) = ((hi * 2 ^ k : Nat) : Int) := by simp
    rw [this]
    simp only [IntKind.wrap]
    exact Int.emod_eq_of_lt (by omega) (by simpa [IntKind.bits] using Int.ofNat_lt.2 hh)
  have e2 : (lo : Int) / 2 ^ (64 - k) = ((lo / 2 ^ (64 - k) : Nat) : Int) := by simp
  have hp : 2 ^ (64 - k) * 2 ^ k = 18446744073709551616 := by
    rw [← Nat.pow_add, show 64 - k + k = 64 by omega]
  have h3 : lo / 2 ^ (64 - k) < 2 ^ k := (Nat.div_lt_iff_lt_mul (Nat.pow_pos (by decide))).2 (by rw [Nat.mul_comm, hp]; exact hl)
  have h4 : lo * 2 ^ k / 18446744073709551616 = lo / 2 ^ (64 - k) := by
    rw [← hp]
    exact Nat.mul_div_mul_right _ _ (Nat.pow_pos (by decide))
  have h5 : (hi * 18446744073709551616 + lo) * 2 ^ k / 18446744073709551616 = hi * 2 ^ k + lo / 2 ^ (64 - k) := by
    rw [Nat.add_mul, show hi * 18446744073709551616 * 2 ^ k = 18446744073709551616 * (hi * 2 ^ k) by rw [Nat.mul_comm hi, Nat.mul_assoc], Nat.mul_add_div (by decide), h4]
  have h6 : 2 ^ k ≤ 9223372036854775808 := Nat.pow_le_pow_right (n := 2) (by decide) hk
  rw [e1, e2, h5, (bits_nat .u64 64 (by decide) wraps_u64 (hi * 2 ^ k) (lo / 2 ^ (64 - k)) (by simpa using hh) (by simp; omega)).2, Nat.mul_comm hi, Nat.two_pow_add_eq_or_of_lt h3]
end Go.Proofs.YtgdlkpfkaehebaaGreatDoor.Ns
