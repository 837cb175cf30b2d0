/- Plain: a beginning of a frame is none. No program in sight. -/
import Derived.Test.YtjkjcimoeohijaaFrame
namespace Go.Proofs.Ytjkjcimoeohijaa.Fr
open Num Crc

theorem first_prefix (q e : Nat) (t : List UInt8) (ht : t.length ≤ 8192) (k : Nat) (hk : k < 24 + t.length) (h0 : k ≠ 0) : firstL ((putL q e t).take k) = (0, 0, [], [], 60) := by
  have hp := putL_length q e t
  have hl : ((putL q e t).take k).length = k := by rw [List.length_take]; omega
  by_cases h24 : k < 24
  · exact firstL_short (by omega) (by omega)
  · have en : numL (((putL q e t).take k).take 4) = t.length := by
      have h4 := fixL_length 4 t.length
      have : ((putL q e t).take k).take 4 = fixL t.length 4 := by
        rw [List.take_take, Nat.min_eq_left (by omega)]
        simp only [putL, bodyL, List.append_assoc]
        rw [List.take_append_of_le_length (by omega), List.take_of_length_le (by omega)]
      rw [this, numL_fixL]; exact Nat.mod_eq_of_lt (by omega)
    exact firstL_cut (by omega) (by rw [en]; omega) (by rw [en]; omega)

end Go.Proofs.Ytjkjcimoeohijaa.Fr
