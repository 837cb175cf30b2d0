/- The call of guard.number is proved: on any text of at most eight bytes it answers the number that they write, the highest byte first. -/
import Derived.Test.YtjkjcimoeohijaaSumB
import Derived.Test.YtjkjcimoeohijaaNum
namespace Go.Proofs.Ytjkjcimoeohijaa
open Go.RowKit

theorem or_byte (n c : Nat) (hc : c < 256) : n * 256 ||| c = n * 256 + c := nat_join 8 _ _ (by omega) (by omega)

theorem or_walk (n c : Nat) (hn : n < 72057594037927936) (hc : c < 256) :
    bits BinOp.or IntKind.u64 ((n : Int) * 256) (c : Int) = ((n * 256 + c : Nat) : Int) := by
  rw [show (n : Int) * 256 = ((n * 256 : Nat) : Int) from by omega, u64_or_nat _ _ (by omega) (by omega), or_byte n c hc]

set_option maxHeartbeats 400000 in
theorem number_any (s : ByteArray) (w : World) (hs : s.size ≤ 8) :
    Calls Try.prog 23 #[.string s] w fun e w' => e = .returned (.int .u64 (Num.numL s.data.toList : Nat)) ∧ Below w.heap.size w w' := by
  obtain ⟨cap, w2, hrun, hb2, _, hc2⟩ := conv_any s w
  have HB := Lib.hid hb2
  have HC := Lib.hid hc2
  clear hb2 hc2
  go_enter Try.func23, Try.ntmps23
  go_wp2
  go_loop [2, 8] (fun n i => ∃ k : Nat, k ≤ s.size ∧ i = .int .i64 k ∧ n = .int .u64 (Num.numL (s.data.toList.take k) : Nat)) (fun _ i => s.size - (intOf i).toNat)
  case atStart => exact ⟨0, by omega, rfl, rfl⟩
  case round =>
    obtain ⟨k, hk, rfl, rfl⟩ := hrel
    by_cases hlt : k < s.size
    · have hc := HC.out k hlt
      have hr := Num.numF_snoc 0 (s.data.toList.take k) (s.data.toList.getD k 0)
      rw [take_snoc s k hlt] at hr
      have hn := Num.numL_lt (s.data.toList.take k)
      have hn2 : 256 ^ (s.data.toList.take k).length ≤ 256 ^ 7 := Nat.pow_le_pow_right (by omega) (by simp; omega)
      have hc256 := (s.data.toList.getD k 0).toNat_lt
      have hn3 : Num.numL (s.data.toList.take k) < 72057594037927936 := by omega
      change Num.numL _ = Num.numL _ * 256 + _ at hr
      generalize Num.numL (s.data.toList.take k) = n at *
      generalize (s.data.toList.getD k 0).toNat = c at *
      have HR := Lib.hid hr
      clear hr hn hn2
      go_wp2
      go_round
      case rel => exact ⟨k + 1, by omega, by go_num, by rw [or_walk n c hn3 (by omega), HR.out]⟩
      case measure => simp [intOf]; omega
    · obtain rfl : k = s.size := by omega
      have ek : List.take s.size s.data.toList = s.data.toList := List.take_of_length_le (by simp)
      rw [ek]
      clear ek
      go_wp2
      go_ret
      exact ⟨rfl, HB.out⟩
end Go.Proofs.Ytjkjcimoeohijaa
