/- The calls of guard's Sum, number and fixed (and of the document's). -/
import Derived.Test.YtoafebndlldclaaDoorRows
import Derived.Test.YtoafebndlldclaaDoorPa
import Derived.WalkKit
import Derived.WalkSpells
import Derived.WalkLawsBesides
import Derived.Laws.BitsAllLaws
import Derived.Lib.Hide
import Derived.Deep.WholeRow
import Derived.Lib.ConvBytes
import Derived.Laws.IdiomStrings
namespace Go.Proofs.YtoafebndlldclaaDoor
open Go.RowKit

theorem ret_int {k : IntKind} {a b : Int} (h : a = b) : Ending.returned (.int k a) = .returned (.int k b) := by rw [h]

theorem half_walk (n : Nat) (h : n < 4294967296) :
    bits BinOp.xor IntKind.u32 ((n : Int) / 2) (bits BinOp.and IntKind.u32 3988292384 (-bits BinOp.and IntKind.u32 n 1 % 4294967296)) = ((Crc.half n : Nat) : Int) := by
  have e1 : bits BinOp.and IntKind.u32 n 1 = ((n % 2 : Nat) : Int) := by
    have := u32_and_nat n 1 h (by omega)
    rw [nat_mask1] at this; exact this
  rw [e1]
  have e2 : bits BinOp.and IntKind.u32 3988292384 (-((n % 2 : Nat) : Int) % 4294967296) = (((if n % 2 = 1 then 3988292384 else 0) : Nat) : Int) := by
    rcases Nat.mod_two_eq_zero_or_one n with hm | hm
    · rw [hm]; rfl
    · rw [hm]; rfl
  rw [e2, show (n : Int) / 2 = ((n / 2 : Nat) : Int) from by omega]
  rw [u32_xor_nat _ _ (by omega) (by split <;> omega)]
  rfl

set_option maxHeartbeats 400000 in
theorem made_any (a : Nat) (w : World) (h1 : a < 4294967296) :
    Calls Tryd.prog 104 #[.int .u32 a] w fun e w' => e = .returned (.int .u32 (Crc.halves 4 a : Nat)) ∧ w' = w := by
  go_enter Tryd.func104, Tryd.ntmps104
  go_wp2
  go_loop [0, 3] (fun t i => ∃ k : Nat, k ≤ 4 ∧ i = .int .i64 k ∧ t = .int .u32 (Crc.halves k a : Nat)) (fun _ i => 4 - (intOf i).toNat)
  case atStart => exact ⟨0, by omega, rfl, rfl⟩
  case round =>
    obtain ⟨k, hk, rfl, rfl⟩ := hrel
    have hn := Crc.halves_lt k h1
    have hs := Crc.halves_succ k a
    generalize hx : Crc.halves k a = n at *
    have H := Lib.hid hs
    have HX := Lib.hid hx
    clear hs hx
    go_wp2
    · go_round
      case rel => exact ⟨k + 1, by omega, by go_num, by rw [half_walk n hn, H.out]⟩
      case measure => simp [intOf]; omega
    · obtain rfl : k = 4 := by omega
      go_ret
      exact ⟨ret_int (by rw [HX.out]), rfl⟩

def tblA (k : Nat) : Array Value := Array.ofFn (n := 16) fun i => .int .u32 ((if i.val < k then Crc.halves 4 i.val else 0 : Nat) : Int)

theorem tblA_zero : tblA 0 = #[.int .u32 0, .int .u32 0, .int .u32 0, .int .u32 0, .int .u32 0, .int .u32 0, .int .u32 0, .int .u32 0,
   .int .u32 0, .int .u32 0, .int .u32 0, .int .u32 0, .int .u32 0, .int .u32 0, .int .u32 0, .int .u32 0] := by rfl

theorem tblA_size (k : Nat) : (tblA k).size = 16 := by simp [tblA]

def lit16 : Array Value := #[.int .u32 0, .int .u32 498536548, .int .u32 997073096, .int .u32 651767980, .int .u32 1994146192, .int .u32 1802195444, .int .u32 1303535960, .int .u32 1342533948, .int .u32 3988292384, .int .u32 4027552580, .int .u32 3604390888, .int .u32 3412177804, .int .u32 2607071920, .int .u32 2262029012, .int .u32 2685067896, .int .u32 3183342108]

theorem tblA_lit : tblA 16 = #[.int .u32 0, .int .u32 498536548, .int .u32 997073096, .int .u32 651767980, .int .u32 1994146192, .int .u32 1802195444, .int .u32 1303535960, .int .u32 1342533948, .int .u32 3988292384, .int .u32 4027552580, .int .u32 3604390888, .int .u32 3412177804, .int .u32 2607071920, .int .u32 2262029012, .int .u32 2685067896, .int .u32 3183342108] := by rfl

theorem tblA_set (k : Nat) : (tblA k).setIfInBounds k (.int .u32 (Crc.halves 4 k : Nat)) = tblA (k + 1) := by
  apply Array.ext
  · simp [tblA]
  · intro i h1 h2
    rw [Array.getElem_setIfInBounds (by simpa using h1)]
    simp only [tblA, Array.getElem_ofFn]
    by_cases hi : k = i
    · subst hi; simp
    · rw [if_neg hi]
      by_cases h3 : i < k
      · rw [if_pos h3, if_pos (by omega)]
      · rw [if_neg h3, if_neg (by omega)]

set_option maxHeartbeats 400000 in
theorem table_any (w : World) :
    Calls Tryd.prog 87 #[] w fun e w' => e = .returned (.agg lit16) ∧ Below w.heap.size w w' := by
  go_enter Tryd.func87, Tryd.ntmps87
  go_wp2
  rw [← tblA_zero]
  go_loopw [3] (fun i wr => ∃ k : Nat, k ≤ 16 ∧ i = .int .i64 k ∧ wr = w.alloc (.cells (tblA k) 149)) (fun i _ => 16 - (intOf i).toNat)
  case atStart => exact ⟨0, by omega, rfl, rfl⟩
  case round =>
    obtain ⟨k, hk, rfl, rfl⟩ := hrel
    have hz := tblA_size k
    by_cases hlt : k < 16
    · have hs := tblA_set k
      generalize tblA k = A at *
      have H := Lib.hid hs
      clear hs
      go_wp2_with (go_at_call 104; refine (made_any k _ (by omega)).mono ?_; rintro e w' ⟨rfl, rfl⟩)
      go_roundw
      case rel => exact ⟨k + 1, by omega, by go_num, by rw [H.out]⟩
      case measure => simp [intOf]; omega
    · obtain rfl : k = 16 := by omega
      clear hz
      rw [tblA_lit]
      go_wp2
      refine bodyPost_ret (v := .agg lit16) (by simp [results, Tryd.results87, go_sem, lit16]) rfl ?_
      exact ⟨rfl, (Below.refl _ _).alloc (Nat.le_refl _) _⟩
end Go.Proofs.YtoafebndlldclaaDoor

namespace Go.Proofs.YtoafebndlldclaaDoor
open Go.RowKit
set_option maxRecDepth 100000

theorem store_lit16 (w : World) : Sem.run Tryd.prog (storeCells ⟨w.heap.size, 0, none⟩ lit16.toList) (w.alloc (.cells #[.int .u32 0, .int .u32 0, .int .u32 0, .int .u32 0, .int .u32 0, .int .u32 0, .int .u32 0, .int .u32 0,
   .int .u32 0, .int .u32 0, .int .u32 0, .int .u32 0, .int .u32 0, .int .u32 0, .int .u32 0, .int .u32 0] 149)) = .ok () (w.alloc (.cells lit16 149)) :=
  run_storeCells_new (P := Tryd.prog) w 149 _ lit16 (by kernel_rfl) (by kernel_rfl) (by kernel_rfl)

/-- '[]byte(s)': a new block whose cells are the bytes; what was there stays. -/
theorem conv_any (s : ByteArray) (w : World) : ∃ cap w2, Sem.run Tryd.prog (convert 9 34 (.string s)) w = .ok (.slice (some ⟨w.heap.size, 0, none⟩) s.size cap) w2 ∧
    Below w.heap.size w w2 ∧ w2.heap.size = w.heap.size + 1 ∧ ∀ j, j < s.size → w2.cell? ⟨w.heap.size, j, none⟩ = some (.int .u8 (s.data.toList.getD j 0).toNat) := by
  refine ⟨_, _, Lib.run_convert_string_bytes w 9 34 5 s (u := .string) (by kernel_rfl) (by kernel_rfl) (by kernel_rfl), ⟨rfl, rfl, rfl, ?_, fun k hk => Lib.bytesWorld_at_old w 5 s k hk⟩, Lib.bytesWorld_size w 5 s, fun j hj => Lib.bytesWorld_cell w 5 s j hj⟩
  rw [Lib.bytesWorld_size]; omega

theorem lit16_at (i : Nat) (h : i < 16) : lit16[i]? = some (.int .u32 (Crc.halves 4 i : Nat)) := by
  rw [show lit16 = tblA 16 from tblA_lit.symm]
  simp [tblA, h]

theorem nib_walk (m : Nat) (h : m < 4294967296) :
    bits BinOp.xor IntKind.u32 ((m : Int) / 16) ((Crc.halves 4 (m % 16) : Nat) : Int) = ((Crc.halves 4 m : Nat) : Int) := by
  rw [show (m : Int) / 16 = ((m / 16 : Nat) : Int) from by omega, u32_xor_nat _ _ (by omega) (Crc.halves_lt 4 (by omega)), Crc.nib]

theorem and15_walk (m : Nat) (h : m < 4294967296) : bits BinOp.and IntKind.u32 (m : Int) 15 = ((m % 16 : Nat) : Int) := by
  have := u32_and_nat m 15 h (by omega)
  rw [nat_mask4] at this; exact this

theorem not_walk (n : Nat) (h : n < 4294967296) : bits BinOp.xor IntKind.u32 IntKind.u32.max (n : Int) = ((n ^^^ 4294967295 : Nat) : Int) := by
  rw [show IntKind.u32.max = ((4294967295 : Nat) : Int) from rfl, u32_xor_nat _ _ (by omega) h, Nat.xor_comm]

theorem take_snoc (s : ByteArray) (k : Nat) (h : k < s.size) : s.data.toList.take k ++ [s.data.toList.getD k 0] = s.data.toList.take (k + 1) := by
  have h' : k < s.data.toList.length := by simpa using h
  rw [List.take_succ_eq_append_getElem h', List.getD_eq_getElem?_getD, List.getElem?_eq_getElem h']; rfl

set_option maxHeartbeats 400000 in
theorem sum_any (s : ByteArray) (w : World) (hs : s.size ≤ maxLen) :
    Calls Tryd.prog 68 #[.string s] w fun e w' => e = .returned (.int .u32 (Crc.crc s.data.toList : Nat)) ∧ Below w.heap.size w w' := by
  unfold maxLen at hs
  have hst := store_lit16
  go_enter Tryd.func68, Tryd.ntmps68
  go_wp2_with fail
  refine (table_any _).mono ?_
  rintro e w1 ⟨rfl, hb⟩
  obtain ⟨cap, w2, hrun, hb2, hsz2, hc2⟩ := conv_any s (w1.alloc (.cells lit16 149))
  have ht : ∀ i, i < 16 → w2.cell? ⟨w1.heap.size, i, none⟩ = some (.int .u32 (Crc.halves 4 i : Nat)) := by
    intro i hi
    rw [hb2.cell (by simp)]
    rw [← lit16_at i hi]
    exact World.cell?_alloc_at _ _ _ _ rfl
  have hbb : Below w.heap.size w w2 := (hb.alloc (hb.size) _).trans (hb2.mono (by simp; have := hb.size; omega))
  have HBB := Lib.hid hbb
  have HT := Lib.hid ht
  have HC := Lib.hid hc2
  have HZ := Lib.hid hsz2
  clear ht hbb hb hc2 hsz2 hb2
  go_wp2
  go_loop [4, 11] (fun n i => ∃ k : Nat, k ≤ s.size ∧ i = .int .i64 k ∧ n = .int .u32 (Crc.run 4294967295 (s.data.toList.take k) : Nat)) (fun _ i => s.size - (intOf i).toNat)
  case atStart => exact ⟨0, by omega, rfl, rfl⟩
  case round =>
    obtain ⟨k, hk, rfl, rfl⟩ := hrel
    by_cases hlt : k < s.size
    · have hr := Crc.run_snoc 4294967295 (s.data.toList.take k) (s.data.toList.getD k 0)
      rw [take_snoc s k hlt] at hr
      have hn := Crc.run_lt (s.data.toList.take k) (n := 4294967295) (by omega)
      have hc : w2.cell? ⟨w1.heap.size + 1, k, none⟩ = some (.int .u8 (s.data.toList.getD k 0).toNat) := by
        have := HC.out k hlt; simpa using this
      have hc256 := (s.data.toList.getD k 0).toNat_lt
      generalize Crc.run 4294967295 (s.data.toList.take k) = n at *
      generalize (s.data.toList.getD k 0).toNat = c at *
      have hm : n ^^^ c < 4294967296 := Nat.xor_lt_two_pow (n := 32) (by omega) (by omega)
      have e1 : bits BinOp.xor IntKind.u32 (n : Int) (c : Int) = ((n ^^^ c : Nat) : Int) := u32_xor_nat _ _ hn (by omega)
      have hb := Crc.byte_nibs n c
      generalize n ^^^ c = m at *
      have e2 := and15_walk m hm
      have e3 := nib_walk m hm
      have t1 := HT.out (m % 16) (by omega)
      have hi1 : m % 16 < 16 := by omega
      generalize m % 16 = i1 at *
      have hm2 := Crc.halves_lt 4 hm
      generalize Crc.halves 4 m = m2 at *
      have e4 := and15_walk m2 hm2
      have e5 := nib_walk m2 hm2
      have t2 := HT.out (m2 % 16) (by omega)
      have hi2 : m2 % 16 < 16 := by omega
      generalize m2 % 16 = i2 at *
      have HR := Lib.hid hr
      have HB2 := Lib.hid hb
      clear hr hb
      go_wp2
      go_round
      case rel => exact ⟨k + 1, by omega, by go_num, by rw [HR.out, HB2.out]⟩
      case measure => simp [intOf]; omega
    · obtain rfl : k = s.size := by omega
      have ek : List.take s.size s.data.toList = s.data.toList := List.take_of_length_le (by simp)
      rw [ek]
      have hn := Crc.run_lt s.data.toList (n := 4294967295) (by omega)
      have hcrc : Crc.crc s.data.toList = Crc.run 4294967295 s.data.toList ^^^ 4294967295 := rfl
      generalize Crc.run 4294967295 s.data.toList = n at *
      have HCR := Lib.hid hcrc
      clear hcrc ek
      go_wp2
      go_ret
      exact ⟨ret_int (by rw [HCR.out, not_walk n hn]), HBB.out⟩
end Go.Proofs.YtoafebndlldclaaDoor

namespace Go.Proofs.YtoafebndlldclaaDoor
open Go.RowKit
set_option maxRecDepth 100000

theorem or_byte (n c : Nat) (hc : c < 256) : n * 256 ||| c = n * 256 + c := nat_join 8 _ _ (by omega) (by omega)

theorem or_walk (n c : Nat) (hn : n < 72057594037927936) (hc : c < 256) :
    bits BinOp.or IntKind.u64 ((n : Int) * 256) (c : Int) = ((n * 256 + c : Nat) : Int) := by
  rw [show (n : Int) * 256 = ((n * 256 : Nat) : Int) from by omega, u64_or_nat _ _ (by omega) (by omega), or_byte n c hc]

set_option maxHeartbeats 400000 in
theorem number_any (s : ByteArray) (w : World) (hs : s.size ≤ 8) :
    Calls Tryd.prog 88 #[.string s] w fun e w' => e = .returned (.int .u64 (Num.numL s.data.toList : Nat)) ∧ Below w.heap.size w w' := by
  obtain ⟨cap, w2, hrun, hb2, _, hc2⟩ := conv_any s w
  have HB := Lib.hid hb2
  have HC := Lib.hid hc2
  clear hb2 hc2
  go_enter Tryd.func88, Tryd.ntmps88
  go_wp2
  go_loop [2, 8] (fun n i => ∃ k : Nat, k ≤ s.size ∧ i = .int .i64 k ∧ n = .int .u64 (Num.numL (s.data.toList.take k) : Nat)) (fun _ i => s.size - (intOf i).toNat)
  case atStart => exact ⟨0, by omega, rfl, rfl⟩
  case round =>
    obtain ⟨k, hk, rfl, rfl⟩ := hrel
    by_cases hlt : k < s.size
    · have hc := HC.out k hlt
      have hr := Num.numF_snoc 0 (s.data.toList.take k) (s.data.toList.getD k 0)
      rw [take_snoc s k hlt] at hr
      have hn := Num.numL_lt (s.data.toList.take k)
      have hn2 : 256 ^ (s.data.toList.take k).length ≤ 256 ^ 7 := Nat.pow_le_pow_right (by omega) (by simp; omega)
      have hc256 := (s.data.toList.getD k 0).toNat_lt
      have hn3 : Num.numL (s.data.toList.take k) < 72057594037927936 := by omega
      change Num.numL _ = Num.numL _ * 256 + _ at hr
      generalize Num.numL (s.data.toList.take k) = n at *
      generalize (s.data.toList.getD k 0).toNat = c at *
      have HR := Lib.hid hr
      clear hr hn hn2
      go_wp2
      go_round
      case rel => exact ⟨k + 1, by omega, by go_num, by rw [or_walk n c hn3 (by omega), HR.out]⟩
      case measure => simp [intOf]; omega
    · obtain rfl : k = s.size := by omega
      have ek : List.take s.size s.data.toList = s.data.toList := List.take_of_length_le (by simp)
      rw [ek]
      clear ek
      go_wp2
      go_ret
      exact ⟨rfl, HB.out⟩
end Go.Proofs.YtoafebndlldclaaDoor

namespace Go.Proofs.YtoafebndlldclaaDoor
open Go.RowKit
set_option maxRecDepth 100000

set_option maxHeartbeats 400000 in
theorem refnumber_any (s : ByteArray) (w : World) (hs : s.size ≤ 8) :
    Calls Tryd.prog 77 #[.string s] w fun e w' => e = .returned (.int .u64 (Num.numL s.data.toList : Nat)) ∧ Below w.heap.size w w' := by
  go_enter Tryd.func77, Tryd.ntmps77
  go_wp2
  go_loop [3, 4] (fun n i => ∃ k : Nat, k ≤ s.size ∧ i = .int .i64 k ∧ n = .int .u64 (Num.numL (s.data.toList.take k) : Nat)) (fun _ i => s.size - (intOf i).toNat)
  case atStart => exact ⟨0, by omega, rfl, rfl⟩
  case round =>
    obtain ⟨k, hk, rfl, rfl⟩ := hrel
    by_cases hlt : k < s.size
    · have hr := Num.numF_snoc 0 (s.data.toList.take k) (s.data.toList.getD k 0)
      rw [take_snoc s k hlt] at hr
      have hn := Num.numL_lt (s.data.toList.take k)
      have hn2 : 256 ^ (s.data.toList.take k).length ≤ 256 ^ 7 := Nat.pow_le_pow_right (by omega) (by simp; omega)
      have hc256 := (s.data.toList.getD k 0).toNat_lt
      have hn3 : Num.numL (s.data.toList.take k) < 72057594037927936 := by omega
      change Num.numL _ = Num.numL _ * 256 + _ at hr
      have hb : (s[k].toNat : Int) = ((s.data.toList.getD k 0).toNat : Int) := by
        rw [List.getD_eq_getElem?_getD, List.getElem?_eq_getElem (by simpa using hlt)]; rfl
      generalize Num.numL (s.data.toList.take k) = n at *
      generalize (s.data.toList.getD k 0).toNat = c at *
      have HR := Lib.hid hr
      clear hr hn hn2
      go_wp2
      go_round
      case rel => exact ⟨k + 1, by omega, by go_num, by rw [HR.out]; go_num⟩
      case measure => simp [intOf]; omega
    · obtain rfl : k = s.size := by omega
      have ek : List.take s.size s.data.toList = s.data.toList := List.take_of_length_le (by simp)
      rw [ek]
      clear ek
      go_wp2
      go_ret
      exact ⟨rfl, Below.refl _ _⟩

theorem half_odd (n : Nat) (h : n < 4294967296) (hm : n % 2 = 1) : bits BinOp.xor IntKind.u32 ((n : Int) / 2) 3988292384 = ((Crc.half n : Nat) : Int) := by
  rw [show (n : Int) / 2 = ((n / 2 : Nat) : Int) from by omega, show (3988292384 : Int) = ((3988292384 : Nat) : Int) from rfl, u32_xor_nat _ _ (by omega) (by omega)]
  unfold Crc.half; rw [if_pos hm]
theorem half_evn (n : Nat) (hm : n % 2 = 0) : (n : Int) / 2 = ((Crc.half n : Nat) : Int) := by
  unfold Crc.half; rw [if_neg (by omega), Nat.xor_zero]; omega

set_option maxHeartbeats 400000 in
theorem refsum_any (s : ByteArray) (w : World) (hs : s.size ≤ maxLen) :
    Calls Tryd.prog 74 #[.string s] w fun e w' => e = .returned (.int .u32 (Crc.crc s.data.toList : Nat)) ∧ Below w.heap.size w w' := by
  unfold maxLen at hs
  go_enter Tryd.func74, Tryd.ntmps74
  go_wp2
  go_loop [3, 4] (fun n i => ∃ k : Nat, k ≤ s.size ∧ i = .int .i64 k ∧ n = .int .u32 (Crc.run 4294967295 (s.data.toList.take k) : Nat)) (fun _ i => s.size - (intOf i).toNat)
  case atStart => exact ⟨0, by omega, rfl, rfl⟩
  case round =>
    obtain ⟨k, hk, rfl, rfl⟩ := hrel
    by_cases hlt : k < s.size
    · have hr := Crc.run_snoc 4294967295 (s.data.toList.take k) (s.data.toList.getD k 0)
      rw [take_snoc s k hlt] at hr
      have hn := Crc.run_lt (s.data.toList.take k) (n := 4294967295) (by omega)
      have hb : (s[k].toNat : Int) = ((s.data.toList.getD k 0).toNat : Int) := by
        rw [List.getD_eq_getElem?_getD, List.getElem?_eq_getElem (by simpa using hlt)]; rfl
      have hc256 := (s.data.toList.getD k 0).toNat_lt
      generalize Crc.run 4294967295 (s.data.toList.take k) = n at *
      generalize (s.data.toList.getD k 0).toNat = c at *
      have hm : n ^^^ c < 4294967296 := Nat.xor_lt_two_pow (n := 32) (by omega) (by omega)
      have e1 : bits BinOp.xor IntKind.u32 (n : Int) (c : Int) = ((n ^^^ c : Nat) : Int) := u32_xor_nat _ _ hn (by omega)
      change _ = Crc.halves 8 (n ^^^ c) at hr
      generalize n ^^^ c = m at *
      have HR := Lib.hid hr
      clear hr
      go_wp2
      go_loop [3, 5] (fun t i => ∃ j : Nat, j ≤ 8 ∧ i = .int .i64 j ∧ t = .int .u32 (Crc.halves j m : Nat)) (fun _ i => 8 - (intOf i).toNat)
      case atStart => exact ⟨0, by omega, rfl, rfl⟩
      case round =>
        obtain ⟨j, hj, rfl, rfl⟩ := hrel
        by_cases hjl : j < 8
        · have hh := Crc.halves_lt j hm
          have hs2 := Crc.halves_succ j m
          generalize hx : Crc.halves j m = q at *
          clear hx
          have HS := Lib.hid hs2
          clear hs2
          by_cases ho : q % 2 = 1
          · have e3 := half_odd q hh ho
            have t1 : (((q : Int) % 2) == 1) = true := beq_iff_eq.2 (by omega)
            have HO := Lib.hid ho
            clear ho
            go_wp2
            go_round
            case rel => exact ⟨j + 1, by omega, by go_num, by rw [HS.out]⟩
            case measure => simp [intOf]; omega
          · have e3 := half_evn q (by omega)
            have t1 : (((q : Int) % 2) == 1) = false := beq_eq_false_iff_ne.2 (by omega)
            have HO := Lib.hid ho
            clear ho
            have HE := Lib.hid e3
            clear e3
            go_wp2
            go_round
            case rel => exact ⟨j + 1, by omega, by go_num, by rw [HS.out, HE.out]⟩
            case measure => simp [intOf]; omega
        · obtain rfl : j = 8 := by omega
          go_wp2
          go_round
          case rel => exact ⟨k + 1, by omega, by go_num, by rw [HR.out]⟩
          case measure => simp [intOf]; omega
    · obtain rfl : k = s.size := by omega
      have ek : List.take s.size s.data.toList = s.data.toList := List.take_of_length_le (by simp)
      rw [ek]
      have hn := Crc.run_lt s.data.toList (n := 4294967295) (by omega)
      have hcrc : Crc.crc s.data.toList = Crc.run 4294967295 s.data.toList ^^^ 4294967295 := rfl
      generalize Crc.run 4294967295 s.data.toList = n at *
      have HCR := Lib.hid hcrc
      clear hcrc ek
      have e5 : bits BinOp.xor IntKind.u32 (n : Int) 4294967295 = ((n ^^^ 4294967295 : Nat) : Int) := u32_xor_nat n 4294967295 hn (by omega)
      go_wp2
      go_ret
      exact ⟨ret_int (by rw [HCR.out]), Below.refl _ _⟩
end Go.Proofs.YtoafebndlldclaaDoor

namespace Go.Proofs.YtoafebndlldclaaDoor
open Go.RowKit
set_option maxRecDepth 100000

def byteCells (l : List UInt8) : Array Value := (l.map fun c => Value.int .u8 (c.toNat : Int)).toArray

theorem byteCells_size (l : List UInt8) : (byteCells l).size = l.length := by simp [byteCells]

theorem byteCells_set (l : List UInt8) (i : Nat) (c : UInt8) : (byteCells l).setIfInBounds i (.int .u8 c.toNat) = byteCells (l.set i c) := by
  unfold byteCells; apply Array.ext'; simp [List.map_set]

theorem byteCells_at (l : List UInt8) (i : Nat) (h : i < l.length) : (byteCells l)[i]? = some (.int .u8 (l[i].toNat : Int)) := by
  simp [byteCells, h]

theorem info8 : (Tryd.prog.info? 5).map (fun i => (i.zero, i.size, i.bytes)) = some (some (.int .u8 0), 1, 1) := by kernel_rfl

theorem make_any (k : Nat) (hk : k ≤ 8) (w : World) : (Instr.makeSlice 34 (.int .i64 k) (.int .i64 k)).run Tryd.prog w =
    .ok (.slice (some ⟨w.heap.size, 0, none⟩) k k) (w.alloc (.cells (byteCells (List.replicate k 0)) 5)) := by
  obtain ⟨i, h1, h2, h3, h4⟩ := info_parts info8
  rw [run_make w 34 5 i (.int .u8 0) (by kernel_rfl) h1 h2 .i64 .i64 k k (by omega) (by omega) (by rw [h4]; omega) (by omega)]
  rw [h3]
  congr 3
  simp only [byteCells, madeCells, Value.cells, Int.toNat_natCast, Nat.mul_one]
  apply Array.ext
  · simp
  · intro j h1 h2; simp [Nat.mod_one]

theorem conv_back (l : List UInt8) (w : World) : (convert 34 9 (.slice (some ⟨w.heap.size, 0, none⟩) l.length l.length)).run Tryd.prog (w.alloc (.cells (byteCells l) 5)) =
    .ok (.string ⟨l.toArray⟩) (w.alloc (.cells (byteCells l) 5)) := by
  refine run_convert_bytes_back _ 34 9 5 ⟨w.heap.size, 0, none⟩ l.length l (by kernel_rfl) (by kernel_rfl) (by kernel_rfl) (fun j hj => ?_)
  rw [show (⟨w.heap.size, 0, none⟩ : Addr).add j = ⟨w.heap.size, j, none⟩ from by unfold Addr.add; split <;> simp_all]
  rw [World.cell?_alloc_at _ _ _ _ rfl]
  exact byteCells_at l j hj

set_option maxHeartbeats 400000 in
theorem fixed_any (n : Nat) (k : Nat) (w : World) (hn : n < 18446744073709551616) (hk : k ≤ 8) :
    Calls Tryd.prog 67 #[.int .u64 n, .int .i64 k] w fun e w' => e = .returned (.string ⟨(Num.fixL n k).toArray⟩) ∧ Below w.heap.size w w' := by
  have hmk := make_any k hk
  go_enter Tryd.func67, Tryd.ntmps67
  go_wp2
  rw [← Num.part_zero n k]
  go_loopw [0, 6] (fun x i wr => ∃ j : Nat, j ≤ k ∧ i = .int .i64 (k - 1 - j : Int) ∧ x = .int .u64 (n / 256 ^ j : Nat) ∧ wr = w.alloc (.cells (byteCells (Num.part n k j)) 5)) (fun _ i _ => (intOf i + 1).toNat)
  case atStart => exact ⟨0, by omega, by go_num, by simp, rfl⟩
  case round =>
    obtain ⟨j, hj, rfl, rfl, rfl⟩ := hrel
    clear hmk
    by_cases hlt : j < k
    · have hset := byteCells_set (Num.part n k j) (k - 1 - j) (UInt8.ofNat (n / 256 ^ j))
      rw [Num.part_set n k j hlt] at hset
      obtain ⟨u0, hat⟩ : ∃ u : Int, (byteCells (Num.part n k j))[k - 1 - j]? = some (.int .u8 u) := ⟨_, byteCells_at (Num.part n k j) (k - 1 - j) (by rw [Num.part_length n k j hj]; omega)⟩
      have hq : n / 256 ^ (j + 1) = n / 256 ^ j / 256 := by rw [Nat.pow_succ, Nat.div_div_eq_div_mul]
      have hq2 : n / 256 ^ j < 18446744073709551616 := Nat.lt_of_le_of_lt (Nat.div_le_self _ _) hn
      have h8 : ((UInt8.ofNat (n / 256 ^ j)).toNat : Int) = ((n / 256 ^ j : Nat) : Int) % 256 := by simp
      rw [h8] at hset
      generalize byteCells (Num.part n k j) = A at *
      generalize n / 256 ^ j = q at *
      have HS := Lib.hid hset
      have HQ := Lib.hid hq
      clear hset hq h8
      have hi : ((k : Int) - 1 - j) = ((k - 1 - j : Nat) : Int) := by omega
      have hi2 : ((k : Int) - 1 - j).toNat = k - 1 - j := by omega
      rw [hi]
      have hi3 : k - 1 - j < k := by omega
      have HI : Hid (((k - 1 - j : Nat) : Int) = (k : Int) - 1 - j) := hi.symm
      generalize k - 1 - j = i at *
      clear hi hi2
      go_wp2
      go_roundw
      case rel => exact ⟨j + 1, by omega, by rw [HI.out]; go_num, by rw [HQ.out]; go_num, by rw [HS.out]⟩
      case measure => simp [intOf]
    · obtain rfl : j = k := by omega
      rw [Num.part_full]
      have hc := conv_back (Num.fixL n j) w
      rw [Num.fixL_length] at hc
      go_wp2
      go_ret
      exact ⟨rfl, (Below.refl _ _).alloc (Nat.le_refl _) _⟩

end Go.Proofs.YtoafebndlldclaaDoor
