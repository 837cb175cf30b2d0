/- The calls of guard.fixed and of the document's own fixed (package syzygyref07) are proved: the lowest bytes of a number, the highest one first, as Num.fixL defines them, for widths up to 8. -/
import Derived.Test.YtjkjcimoeohijaaGuardB
import Derived.Laws.IdiomStrings
namespace Go.Proofs.Ytjkjcimoeohijaa
open Go.RowKit

def byteCells (l : List UInt8) : Array Value := (l.map fun c => Value.int .u8 (c.toNat : Int)).toArray

theorem byteCells_size (l : List UInt8) : (byteCells l).size = l.length := by simp [byteCells]

theorem byteCells_set (l : List UInt8) (i : Nat) (c : UInt8) : (byteCells l).setIfInBounds i (.int .u8 c.toNat) = byteCells (l.set i c) := by
  unfold byteCells; apply Array.ext'; simp [List.map_set]

theorem byteCells_at (l : List UInt8) (i : Nat) (h : i < l.length) : (byteCells l)[i]? = some (.int .u8 (l[i].toNat : Int)) := by
  simp [byteCells, h]

theorem info8 : (Try.prog.info? 5).map (fun i => (i.zero, i.size, i.bytes)) = some (some (.int .u8 0), 1, 1) := by kernel_rfl

theorem make_any (k : Nat) (hk : k ≤ 8) (w : World) : (Instr.makeSlice 23 (.int .i64 k) (.int .i64 k)).run Try.prog w =
    .ok (.slice (some ⟨w.heap.size, 0, none⟩) k k) (w.alloc (.cells (byteCells (List.replicate k 0)) 5)) := by
  obtain ⟨i, h1, h2, h3, h4⟩ := info_parts info8
  rw [run_make w 23 5 i (.int .u8 0) (by kernel_rfl) h1 h2 .i64 .i64 k k (by omega) (by omega) (by rw [h4]; omega) (by omega)]
  rw [h3]
  congr 3
  simp only [byteCells, madeCells, Value.cells, Int.toNat_natCast, Nat.mul_one]
  apply Array.ext
  · simp
  · intro j h1 h2; simp [Nat.mod_one]

theorem conv_back (l : List UInt8) (w : World) : (convert 23 9 (.slice (some ⟨w.heap.size, 0, none⟩) l.length l.length)).run Try.prog (w.alloc (.cells (byteCells l) 5)) =
    .ok (.string ⟨l.toArray⟩) (w.alloc (.cells (byteCells l) 5)) := by
  refine run_convert_bytes_back _ 23 9 5 ⟨w.heap.size, 0, none⟩ l.length l (by kernel_rfl) (by kernel_rfl) (by kernel_rfl) (fun j hj => ?_)
  rw [show (⟨w.heap.size, 0, none⟩ : Addr).add j = ⟨w.heap.size, j, none⟩ from by unfold Addr.add; split <;> simp_all]
  rw [World.cell?_alloc_at _ _ _ _ rfl]
  exact byteCells_at l j hj

set_option maxHeartbeats 400000 in
theorem fixed_any (n : Nat) (k : Nat) (w : World) (hn : n < 18446744073709551616) (hk : k ≤ 8) :
    Calls Try.prog 22 #[.int .u64 n, .int .i64 k] w fun e w' => e = .returned (.string ⟨(Num.fixL n k).toArray⟩) ∧ Below w.heap.size w w' := by
  have hmk := make_any k hk
  go_enter Try.func22, Try.ntmps22
  go_wp2
  rw [← Num.part_zero n k]
  go_loopw [0, 6] (fun x i wr => ∃ j : Nat, j ≤ k ∧ i = .int .i64 (k - 1 - j : Int) ∧ x = .int .u64 (n / 256 ^ j : Nat) ∧ wr = w.alloc (.cells (byteCells (Num.part n k j)) 5)) (fun _ i _ => (intOf i + 1).toNat)
  case atStart => exact ⟨0, by omega, by go_num, by simp, rfl⟩
  case round =>
    obtain ⟨j, hj, rfl, rfl, rfl⟩ := hrel
    clear hmk
    by_cases hlt : j < k
    · have hset := byteCells_set (Num.part n k j) (k - 1 - j) (UInt8.ofNat (n / 256 ^ j))
      rw [Num.part_set n k j hlt] at hset
      obtain ⟨u0, hat⟩ : ∃ u : Int, (byteCells (Num.part n k j))[k - 1 - j]? = some (.int .u8 u) := ⟨_, byteCells_at (Num.part n k j) (k - 1 - j) (by rw [Num.part_length n k j hj]; omega)⟩
      have hq : n / 256 ^ (j + 1) = n / 256 ^ j / 256 := by rw [Nat.pow_succ, Nat.div_div_eq_div_mul]
      have hq2 : n / 256 ^ j < 18446744073709551616 := Nat.lt_of_le_of_lt (Nat.div_le_self _ _) hn
      have h8 : ((UInt8.ofNat (n / 256 ^ j)).toNat : Int) = ((n / 256 ^ j : Nat) : Int) % 256 := by simp
      rw [h8] at hset
      generalize byteCells (Num.part n k j) = A at *
      generalize n / 256 ^ j = q at *
      have HS := Lib.hid hset
      have HQ := Lib.hid hq
      clear hset hq h8
      have hi : ((k : Int) - 1 - j) = ((k - 1 - j : Nat) : Int) := by omega
      have hi2 : ((k : Int) - 1 - j).toNat = k - 1 - j := by omega
      rw [hi]
      have hi3 : k - 1 - j < k := by omega
      have HI : Hid (((k - 1 - j : Nat) : Int) = (k : Int) - 1 - j) := hi.symm
      generalize k - 1 - j = i at *
      clear hi hi2
      go_wp2
      go_roundw
      case rel => exact ⟨j + 1, by omega, by rw [HI.out]; go_num, by rw [HQ.out]; go_num, by rw [HS.out]⟩
      case measure => simp [intOf]
    · obtain rfl : j = k := by omega
      rw [Num.part_full]
      have hc := conv_back (Num.fixL n j) w
      rw [Num.fixL_length] at hc
      go_wp2
      go_ret
      exact ⟨rfl, (Below.refl _ _).alloc (Nat.le_refl _) _⟩

end Go.Proofs.Ytjkjcimoeohijaa
