/- The call of guard.Sum is proved: on any text it answers the sum that Crc.crc defines, and nothing that was there changes. -/
import Derived.Test.YtjkjcimoeohijaaSumA
import Derived.Deep.WholeRow
import Derived.Lib.ConvBytes
namespace Go.Proofs.Ytjkjcimoeohijaa
open Go.RowKit

theorem store_lit16 (w : World) : Sem.run Try.prog (storeCells ⟨w.heap.size, 0, none⟩ lit16.toList) (w.alloc (.cells #[.int .u32 0, .int .u32 0, .int .u32 0, .int .u32 0, .int .u32 0, .int .u32 0, .int .u32 0, .int .u32 0,
   .int .u32 0, .int .u32 0, .int .u32 0, .int .u32 0, .int .u32 0, .int .u32 0, .int .u32 0, .int .u32 0] 56)) = .ok () (w.alloc (.cells lit16 56)) :=
  run_storeCells_new (P := Try.prog) w 56 _ lit16 (by kernel_rfl) (by kernel_rfl) (by kernel_rfl)

/-- '[]byte(s)': a new block whose cells are the bytes; what was there stays. -/
theorem conv_any (s : ByteArray) (w : World) : ∃ cap w2, Sem.run Try.prog (convert 9 23 (.string s)) w = .ok (.slice (some ⟨w.heap.size, 0, none⟩) s.size cap) w2 ∧
    Below w.heap.size w w2 ∧ w2.heap.size = w.heap.size + 1 ∧ ∀ j, j < s.size → w2.cell? ⟨w.heap.size, j, none⟩ = some (.int .u8 (s.data.toList.getD j 0).toNat) := by
  refine ⟨_, _, Lib.run_convert_string_bytes w 9 23 5 s (u := .string) (by kernel_rfl) (by kernel_rfl) (by kernel_rfl), ⟨rfl, rfl, rfl, ?_, fun k hk => Lib.bytesWorld_at_old w 5 s k hk⟩, Lib.bytesWorld_size w 5 s, fun j hj => Lib.bytesWorld_cell w 5 s j hj⟩
  rw [Lib.bytesWorld_size]; omega

theorem lit16_at (i : Nat) (h : i < 16) : lit16[i]? = some (.int .u32 (Crc.halves 4 i : Nat)) := by
  rw [show lit16 = tblA 16 from tblA_lit.symm]
  simp [tblA, h]

theorem nib_walk (m : Nat) (h : m < 4294967296) :
    bits BinOp.xor IntKind.u32 ((m : Int) / 16) ((Crc.halves 4 (m % 16) : Nat) : Int) = ((Crc.halves 4 m : Nat) : Int) := by
  rw [show (m : Int) / 16 = ((m / 16 : Nat) : Int) from by omega, u32_xor_nat _ _ (by omega) (Crc.halves_lt 4 (by omega)), Crc.nib]

theorem and15_walk (m : Nat) (h : m < 4294967296) : bits BinOp.and IntKind.u32 (m : Int) 15 = ((m % 16 : Nat) : Int) := by
  have := u32_and_nat m 15 h (by omega)
  rw [nat_mask4] at this; exact this

theorem not_walk (n : Nat) (h : n < 4294967296) : bits BinOp.xor IntKind.u32 IntKind.u32.max (n : Int) = ((n ^^^ 4294967295 : Nat) : Int) := by
  rw [show IntKind.u32.max = ((4294967295 : Nat) : Int) from rfl, u32_xor_nat _ _ (by omega) h, Nat.xor_comm]

theorem take_snoc (s : ByteArray) (k : Nat) (h : k < s.size) : s.data.toList.take k ++ [s.data.toList.getD k 0] = s.data.toList.take (k + 1) := by
  have h' : k < s.data.toList.length := by simpa using h
  rw [List.take_succ_eq_append_getElem h', List.getD_eq_getElem?_getD, List.getElem?_eq_getElem h']; rfl

set_option maxHeartbeats 400000 in
theorem sum_any (s : ByteArray) (w : World) (hs : s.size ≤ maxLen) :
    Calls Try.prog 11 #[.string s] w fun e w' => e = .returned (.int .u32 (Crc.crc s.data.toList : Nat)) ∧ Below w.heap.size w w' := by
  unfold maxLen at hs
  have hst := store_lit16
  go_enter Try.func11, Try.ntmps11
  go_wp2_with fail
  refine (table_any _).mono ?_
  rintro e w1 ⟨rfl, hb⟩
  obtain ⟨cap, w2, hrun, hb2, hsz2, hc2⟩ := conv_any s (w1.alloc (.cells lit16 56))
  have ht : ∀ i, i < 16 → w2.cell? ⟨w1.heap.size, i, none⟩ = some (.int .u32 (Crc.halves 4 i : Nat)) := by
    intro i hi
    rw [hb2.cell (by simp)]
    rw [← lit16_at i hi]
    exact World.cell?_alloc_at _ _ _ _ rfl
  have hbb : Below w.heap.size w w2 := (hb.alloc (hb.size) _).trans (hb2.mono (by simp; have := hb.size; omega))
  have HBB := Lib.hid hbb
  have HT := Lib.hid ht
  have HC := Lib.hid hc2
  have HZ := Lib.hid hsz2
  clear ht hbb hb hc2 hsz2 hb2
  go_wp2
  go_loop [4, 11] (fun n i => ∃ k : Nat, k ≤ s.size ∧ i = .int .i64 k ∧ n = .int .u32 (Crc.run 4294967295 (s.data.toList.take k) : Nat)) (fun _ i => s.size - (intOf i).toNat)
  case atStart => exact ⟨0, by omega, rfl, rfl⟩
  case round =>
    obtain ⟨k, hk, rfl, rfl⟩ := hrel
    by_cases hlt : k < s.size
    · have hr := Crc.run_snoc 4294967295 (s.data.toList.take k) (s.data.toList.getD k 0)
      rw [take_snoc s k hlt] at hr
      have hn := Crc.run_lt (s.data.toList.take k) (n := 4294967295) (by omega)
      have hc : w2.cell? ⟨w1.heap.size + 1, k, none⟩ = some (.int .u8 (s.data.toList.getD k 0).toNat) := by
        have := HC.out k hlt; simpa using this
      have hc256 := (s.data.toList.getD k 0).toNat_lt
      generalize Crc.run 4294967295 (s.data.toList.take k) = n at *
      generalize (s.data.toList.getD k 0).toNat = c at *
      have hm : n ^^^ c < 4294967296 := Nat.xor_lt_two_pow (n := 32) (by omega) (by omega)
      have e1 : bits BinOp.xor IntKind.u32 (n : Int) (c : Int) = ((n ^^^ c : Nat) : Int) := u32_xor_nat _ _ hn (by omega)
      have hb := Crc.byte_nibs n c
      generalize n ^^^ c = m at *
      have e2 := and15_walk m hm
      have e3 := nib_walk m hm
      have t1 := HT.out (m % 16) (by omega)
      have hi1 : m % 16 < 16 := by omega
      generalize m % 16 = i1 at *
      have hm2 := Crc.halves_lt 4 hm
      generalize Crc.halves 4 m = m2 at *
      have e4 := and15_walk m2 hm2
      have e5 := nib_walk m2 hm2
      have t2 := HT.out (m2 % 16) (by omega)
      have hi2 : m2 % 16 < 16 := by omega
      generalize m2 % 16 = i2 at *
      have HR := Lib.hid hr
      have HB2 := Lib.hid hb
      clear hr hb
      go_wp2
      go_round
      case rel => exact ⟨k + 1, by omega, by go_num, by rw [HR.out, HB2.out]⟩
      case measure => simp [intOf]; omega
    · obtain rfl : k = s.size := by omega
      have ek : List.take s.size s.data.toList = s.data.toList := List.take_of_length_le (by simp)
      rw [ek]
      have hn := Crc.run_lt s.data.toList (n := 4294967295) (by omega)
      have hcrc : Crc.crc s.data.toList = Crc.run 4294967295 s.data.toList ^^^ 4294967295 := rfl
      generalize Crc.run 4294967295 s.data.toList = n at *
      have HCR := Lib.hid hcrc
      clear hcrc ek
      go_wp2
      go_ret
      exact ⟨ret_int (by rw [HCR.out, not_walk n hn]), HBB.out⟩
end Go.Proofs.Ytjkjcimoeohijaa
