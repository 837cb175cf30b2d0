/- The calls of the document's own number and Sum (package syzygyref07) are proved: they answer what Num.numL and Crc.crc define, at any text of at most eight bytes, at any text. -/
import Derived.Test.YtjkjcimoeohijaaGuardA
namespace Go.Proofs.Ytjkjcimoeohijaa
open Go.RowKit

set_option maxHeartbeats 400000 in
theorem refnumber_any (s : ByteArray) (w : World) (hs : s.size ≤ 8) :
    Calls Try.prog 25 #[.string s] w fun e w' => e = .returned (.int .u64 (Num.numL s.data.toList : Nat)) ∧ Below w.heap.size w w' := by
  go_enter Try.func25, Try.ntmps25
  go_wp2
  go_loop [3, 4] (fun n i => ∃ k : Nat, k ≤ s.size ∧ i = .int .i64 k ∧ n = .int .u64 (Num.numL (s.data.toList.take k) : Nat)) (fun _ i => s.size - (intOf i).toNat)
  case atStart => exact ⟨0, by omega, rfl, rfl⟩
  case round =>
    obtain ⟨k, hk, rfl, rfl⟩ := hrel
    by_cases hlt : k < s.size
    · have hr := Num.numF_snoc 0 (s.data.toList.take k) (s.data.toList.getD k 0)
      rw [take_snoc s k hlt] at hr
      have hn := Num.numL_lt (s.data.toList.take k)
      have hn2 : 256 ^ (s.data.toList.take k).length ≤ 256 ^ 7 := Nat.pow_le_pow_right (by omega) (by simp; omega)
      have hc256 := (s.data.toList.getD k 0).toNat_lt
      have hn3 : Num.numL (s.data.toList.take k) < 72057594037927936 := by omega
      change Num.numL _ = Num.numL _ * 256 + _ at hr
      have hb : (s[k].toNat : Int) = ((s.data.toList.getD k 0).toNat : Int) := by
        rw [List.getD_eq_getElem?_getD, List.getElem?_eq_getElem (by simpa using hlt)]; rfl
      generalize Num.numL (s.data.toList.take k) = n at *
      generalize (s.data.toList.getD k 0).toNat = c at *
      have HR := Lib.hid hr
      clear hr hn hn2
      go_wp2
      go_round
      case rel => exact ⟨k + 1, by omega, by go_num, by rw [HR.out]; go_num⟩
      case measure => simp [intOf]; omega
    · obtain rfl : k = s.size := by omega
      have ek : List.take s.size s.data.toList = s.data.toList := List.take_of_length_le (by simp)
      rw [ek]
      clear ek
      go_wp2
      go_ret
      exact ⟨rfl, Below.refl _ _⟩

theorem half_odd (n : Nat) (h : n < 4294967296) (hm : n % 2 = 1) : bits BinOp.xor IntKind.u32 ((n : Int) / 2) 3988292384 = ((Crc.half n : Nat) : Int) := by
  rw [show (n : Int) / 2 = ((n / 2 : Nat) : Int) from by omega, show (3988292384 : Int) = ((3988292384 : Nat) : Int) from rfl, u32_xor_nat _ _ (by omega) (by omega)]
  unfold Crc.half; rw [if_pos hm]
theorem half_evn (n : Nat) (hm : n % 2 = 0) : (n : Int) / 2 = ((Crc.half n : Nat) : Int) := by
  unfold Crc.half; rw [if_neg (by omega), Nat.xor_zero]; omega

set_option maxHeartbeats 400000 in
theorem refsum_any (s : ByteArray) (w : World) (hs : s.size ≤ maxLen) :
    Calls Try.prog 18 #[.string s] w fun e w' => e = .returned (.int .u32 (Crc.crc s.data.toList : Nat)) ∧ Below w.heap.size w w' := by
  unfold maxLen at hs
  go_enter Try.func18, Try.ntmps18
  go_wp2
  go_loop [3, 4] (fun n i => ∃ k : Nat, k ≤ s.size ∧ i = .int .i64 k ∧ n = .int .u32 (Crc.run 4294967295 (s.data.toList.take k) : Nat)) (fun _ i => s.size - (intOf i).toNat)
  case atStart => exact ⟨0, by omega, rfl, rfl⟩
  case round =>
    obtain ⟨k, hk, rfl, rfl⟩ := hrel
    by_cases hlt : k < s.size
    · have hr := Crc.run_snoc 4294967295 (s.data.toList.take k) (s.data.toList.getD k 0)
      rw [take_snoc s k hlt] at hr
      have hn := Crc.run_lt (s.data.toList.take k) (n := 4294967295) (by omega)
      have hb : (s[k].toNat : Int) = ((s.data.toList.getD k 0).toNat : Int) := by
        rw [List.getD_eq_getElem?_getD, List.getElem?_eq_getElem (by simpa using hlt)]; rfl
      have hc256 := (s.data.toList.getD k 0).toNat_lt
      generalize Crc.run 4294967295 (s.data.toList.take k) = n at *
      generalize (s.data.toList.getD k 0).toNat = c at *
      have hm : n ^^^ c < 4294967296 := Nat.xor_lt_two_pow (n := 32) (by omega) (by omega)
      have e1 : bits BinOp.xor IntKind.u32 (n : Int) (c : Int) = ((n ^^^ c : Nat) : Int) := u32_xor_nat _ _ hn (by omega)
      change _ = Crc.halves 8 (n ^^^ c) at hr
      generalize n ^^^ c = m at *
      have HR := Lib.hid hr
      clear hr
      go_wp2
      go_loop [3, 5] (fun t i => ∃ j : Nat, j ≤ 8 ∧ i = .int .i64 j ∧ t = .int .u32 (Crc.halves j m : Nat)) (fun _ i => 8 - (intOf i).toNat)
      case atStart => exact ⟨0, by omega, rfl, rfl⟩
      case round =>
        obtain ⟨j, hj, rfl, rfl⟩ := hrel
        by_cases hjl : j < 8
        · have hh := Crc.halves_lt j hm
          have hs2 := Crc.halves_succ j m
          generalize hx : Crc.halves j m = q at *
          clear hx
          have HS := Lib.hid hs2
          clear hs2
          by_cases ho : q % 2 = 1
          · have e3 := half_odd q hh ho
            have t1 : (((q : Int) % 2) == 1) = true := beq_iff_eq.2 (by omega)
            have HO := Lib.hid ho
            clear ho
            go_wp2
            go_round
            case rel => exact ⟨j + 1, by omega, by go_num, by rw [HS.out]⟩
            case measure => simp [intOf]; omega
          · have e3 := half_evn q (by omega)
            have t1 : (((q : Int) % 2) == 1) = false := beq_eq_false_iff_ne.2 (by omega)
            have HO := Lib.hid ho
            clear ho
            have HE := Lib.hid e3
            clear e3
            go_wp2
            go_round
            case rel => exact ⟨j + 1, by omega, by go_num, by rw [HS.out, HE.out]⟩
            case measure => simp [intOf]; omega
        · obtain rfl : j = 8 := by omega
          go_wp2
          go_round
          case rel => exact ⟨k + 1, by omega, by go_num, by rw [HR.out]⟩
          case measure => simp [intOf]; omega
    · obtain rfl : k = s.size := by omega
      have ek : List.take s.size s.data.toList = s.data.toList := List.take_of_length_le (by simp)
      rw [ek]
      have hn := Crc.run_lt s.data.toList (n := 4294967295) (by omega)
      have hcrc : Crc.crc s.data.toList = Crc.run 4294967295 s.data.toList ^^^ 4294967295 := rfl
      generalize Crc.run 4294967295 s.data.toList = n at *
      have HCR := Lib.hid hcrc
      clear hcrc ek
      have e5 : bits BinOp.xor IntKind.u32 (n : Int) 4294967295 = ((n ^^^ 4294967295 : Nat) : Int) := u32_xor_nat n 4294967295 hn (by omega)
      go_wp2
      go_ret
      exact ⟨ret_int (by rw [HCR.out]), Below.refl _ _⟩
end Go.Proofs.Ytjkjcimoeohijaa
