/- math/bits.Add64 at this program: an entry of the model. -/
import Derived.Shelf.Spec.BitsCarry
import Derived.Test.YtgdlkpfkaehebaaGreatDoorProg
namespace Go.Proofs.YtgdlkpfkaehebaaGreatDoor.Bc
open Go Go.Proofs
theorem add64 (x y c : Int) (hx : 0 ≤ x) (hy : 0 ≤ y) (hc0 : 0 ≤ c) (hx1 : x < 18446744073709551616) (hy1 : y < 18446744073709551616) (hc : c ≤ 1) (w : World) : (callFunc 58 #[.int .u64 x, .int .u64 y, .int .u64 c]).run Tryz.prog w =
    .ok (.value (.tuple #[.int .u64 ((x + y + c) % 18446744073709551616), .int .u64 ((x + y + c) / 18446744073709551616)])) w := by
  obtain ⟨x, rfl⟩ := Int.eq_ofNat_of_zero_le hx
  obtain ⟨y, rfl⟩ := Int.eq_ofNat_of_zero_le hy
  obtain ⟨c, rfl⟩ := Int.eq_ofNat_of_zero_le hc0
  rw [run_callFunc_extern Tryz.func58 (by kernel_rfl) (by kernel_rfl) (by kernel_rfl) (e := add64Entry) (by kernel_rfl), run_add64 x y c (by omega) (by omega) (by omega) (by omega)]
  simp only [Result.andThen]
end Go.Proofs.YtgdlkpfkaehebaaGreatDoor.Bc
