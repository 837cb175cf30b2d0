/- The calls of guard.table and of what it calls are proved: the table of what half a byte becomes, sixteen words. -/
import Derived.Test.YtjkjcimoeohijaaRows
import Derived.Test.YtjkjcimoeohijaaCrc
import Derived.WalkKit
import Derived.WalkSpells
import Derived.WalkLawsBesides
import Derived.Laws.BitsAllLaws
import Derived.Lib.Hide
namespace Go.Proofs.Ytjkjcimoeohijaa
open Go.RowKit

theorem ret_int {k : IntKind} {a b : Int} (h : a = b) : Ending.returned (.int k a) = .returned (.int k b) := by rw [h]

theorem half_walk (n : Nat) (h : n < 4294967296) :
    bits BinOp.xor IntKind.u32 ((n : Int) / 2) (bits BinOp.and IntKind.u32 3988292384 (-bits BinOp.and IntKind.u32 n 1 % 4294967296)) = ((Crc.half n : Nat) : Int) := by
  have e1 : bits BinOp.and IntKind.u32 n 1 = ((n % 2 : Nat) : Int) := by
    have := u32_and_nat n 1 h (by omega)
    rw [nat_mask1] at this; exact this
  rw [e1]
  have e2 : bits BinOp.and IntKind.u32 3988292384 (-((n % 2 : Nat) : Int) % 4294967296) = (((if n % 2 = 1 then 3988292384 else 0) : Nat) : Int) := by
    rcases Nat.mod_two_eq_zero_or_one n with hm | hm
    · rw [hm]; rfl
    · rw [hm]; rfl
  rw [e2, show (n : Int) / 2 = ((n / 2 : Nat) : Int) from by omega]
  rw [u32_xor_nat _ _ (by omega) (by split <;> omega)]
  rfl

set_option maxHeartbeats 400000 in
theorem made_any (a : Nat) (w : World) (h1 : a < 4294967296) :
    Calls Try.prog 27 #[.int .u32 a] w fun e w' => e = .returned (.int .u32 (Crc.halves 4 a : Nat)) ∧ w' = w := by
  go_enter Try.func27, Try.ntmps27
  go_wp2
  go_loop [0, 3] (fun t i => ∃ k : Nat, k ≤ 4 ∧ i = .int .i64 k ∧ t = .int .u32 (Crc.halves k a : Nat)) (fun _ i => 4 - (intOf i).toNat)
  case atStart => exact ⟨0, by omega, rfl, rfl⟩
  case round =>
    obtain ⟨k, hk, rfl, rfl⟩ := hrel
    have hn := Crc.halves_lt k h1
    have hs := Crc.halves_succ k a
    generalize hx : Crc.halves k a = n at *
    have H := Lib.hid hs
    have HX := Lib.hid hx
    clear hs hx
    go_wp2
    · go_round
      case rel => exact ⟨k + 1, by omega, by go_num, by rw [half_walk n hn, H.out]⟩
      case measure => simp [intOf]; omega
    · obtain rfl : k = 4 := by omega
      go_ret
      exact ⟨ret_int (by rw [HX.out]), rfl⟩

def tblA (k : Nat) : Array Value := Array.ofFn (n := 16) fun i => .int .u32 ((if i.val < k then Crc.halves 4 i.val else 0 : Nat) : Int)

theorem tblA_zero : tblA 0 = #[.int .u32 0, .int .u32 0, .int .u32 0, .int .u32 0, .int .u32 0, .int .u32 0, .int .u32 0, .int .u32 0,
   .int .u32 0, .int .u32 0, .int .u32 0, .int .u32 0, .int .u32 0, .int .u32 0, .int .u32 0, .int .u32 0] := by rfl

theorem tblA_size (k : Nat) : (tblA k).size = 16 := by simp [tblA]

def lit16 : Array Value := #[.int .u32 0, .int .u32 498536548, .int .u32 997073096, .int .u32 651767980, .int .u32 1994146192, .int .u32 1802195444, .int .u32 1303535960, .int .u32 1342533948, .int .u32 3988292384, .int .u32 4027552580, .int .u32 3604390888, .int .u32 3412177804, .int .u32 2607071920, .int .u32 2262029012, .int .u32 2685067896, .int .u32 3183342108]

theorem tblA_lit : tblA 16 = #[.int .u32 0, .int .u32 498536548, .int .u32 997073096, .int .u32 651767980, .int .u32 1994146192, .int .u32 1802195444, .int .u32 1303535960, .int .u32 1342533948, .int .u32 3988292384, .int .u32 4027552580, .int .u32 3604390888, .int .u32 3412177804, .int .u32 2607071920, .int .u32 2262029012, .int .u32 2685067896, .int .u32 3183342108] := by rfl

theorem tblA_set (k : Nat) : (tblA k).setIfInBounds k (.int .u32 (Crc.halves 4 k : Nat)) = tblA (k + 1) := by
  apply Array.ext
  · simp [tblA]
  · intro i h1 h2
    rw [Array.getElem_setIfInBounds (by simpa using h1)]
    simp only [tblA, Array.getElem_ofFn]
    by_cases hi : k = i
    · subst hi; simp
    · rw [if_neg hi]
      by_cases h3 : i < k
      · rw [if_pos h3, if_pos (by omega)]
      · rw [if_neg h3, if_neg (by omega)]

set_option maxHeartbeats 400000 in
theorem table_any (w : World) :
    Calls Try.prog 21 #[] w fun e w' => e = .returned (.agg lit16) ∧ Below w.heap.size w w' := by
  go_enter Try.func21, Try.ntmps21
  go_wp2
  rw [← tblA_zero]
  go_loopw [3] (fun i wr => ∃ k : Nat, k ≤ 16 ∧ i = .int .i64 k ∧ wr = w.alloc (.cells (tblA k) 56)) (fun i _ => 16 - (intOf i).toNat)
  case atStart => exact ⟨0, by omega, rfl, rfl⟩
  case round =>
    obtain ⟨k, hk, rfl, rfl⟩ := hrel
    have hz := tblA_size k
    by_cases hlt : k < 16
    · have hs := tblA_set k
      generalize tblA k = A at *
      have H := Lib.hid hs
      clear hs
      go_wp2_with (go_at_call 27; refine (made_any k _ (by omega)).mono ?_; rintro e w' ⟨rfl, rfl⟩)
      go_roundw
      case rel => exact ⟨k + 1, by omega, by go_num, by rw [H.out]⟩
      case measure => simp [intOf]; omega
    · obtain rfl : k = 16 := by omega
      clear hz
      rw [tblA_lit]
      go_wp2
      refine bodyPost_ret (v := .agg lit16) (by simp [results, Try.results21, go_sem, lit16]) rfl ?_
      exact ⟨rfl, (Below.refl _ _).alloc (Nat.le_refl _) _⟩
end Go.Proofs.Ytjkjcimoeohijaa
