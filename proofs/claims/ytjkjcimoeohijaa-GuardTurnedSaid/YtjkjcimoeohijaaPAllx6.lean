/- Laid by a program of this session (px.py), out of the translation and of contracts that the session proved: what each Go function answers, as a plain Lean function, and that its call answers just that. -/
import Derived.Test.YtjkjcimoeohijaaPAllx0
namespace Go.Proofs.Ytjkjcimoeohijaa.PAll
open Go.RowKit Go.Proofs.YtjkjcimoeohijaaW.PrintWords Go.Proofs.YtjkjcimoeohijaaW.PrintLast Go.Proofs.YtjkjcimoeohijaaW.PrintMore
attribute [local go_sem] max2_int min2_int max_two min_two max_three min_three max_four min_four   -- for this text's walks alone
set_option linter.unusedVariables false
set_option linter.unusedSimpArgs false

def guard_fixed.f (a0 : Int) (a1 : Int) : Option (ByteArray) := if 0 ≤ a0 ∧ a0 < 18446744073709551616 ∧ 0 ≤ a1 ∧ a1 ≤ 8 then some ⟨(Num.fixL a0.toNat a1.toNat).toArray⟩ else none
theorem guard_fixed.calls (a0 : Int) (a1 : Int) (r : ByteArray) (w : World) (h : guard_fixed.f a0 a1 = some r) :
    Calls Try.prog 22 #[.int .u64 a0, .int .i64 a1] w fun e w' => e = .returned (.string r) ∧ Below w.heap.size w w' := by
  unfold guard_fixed.f at h
  split at h
  · rename_i hs
    obtain ⟨h0, h1, h2, h3⟩ := hs
    obtain rfl := Option.some.inj h
    obtain ⟨n, rfl⟩ := Int.eq_ofNat_of_zero_le h0
    obtain ⟨k, rfl⟩ := Int.eq_ofNat_of_zero_le h2
    exact fixed_any n k w (by omega) (by omega)
  · exact absurd h (by simp)

end Go.Proofs.Ytjkjcimoeohijaa.PAll
