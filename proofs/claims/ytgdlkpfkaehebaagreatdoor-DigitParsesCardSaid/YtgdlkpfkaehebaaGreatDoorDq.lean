/- The walk of DigitZeros. -/
import Derived.Test.YtgdlkpfkaehebaaGreatDoorDp
import Derived.Laws.IdiomStrings
set_option linter.unusedVariables false
set_option linter.unusedSimpArgs false
namespace Go.Proofs.YtgdlkpfkaehebaaGreatDoor.Dq
open Go Go.RowKit Go.Proofs.YtgdlkpfkaehebaaGreatDoorW.PrintWords Go.Proofs.YtgdlkpfkaehebaaGreatDoorW.PrintLast Go.Proofs.YtgdlkpfkaehebaaGreatDoorW.PrintMore
open Nt Lm Bs Pr Ra Do Fr Pz Dp

theorem ok_nil : okS [] = false := rfl
theorem ok_zeros (z u : Nat) (hz : 1 ≤ z) : okS (List.replicate z 48 ++ text u) = false := by
  obtain ⟨k, rfl⟩ : ∃ k, z = k + 1 := ⟨z - 1, by omega⟩
  have h1 : 1 < (List.replicate (k + 1) 48 ++ text u).length := by
    have : 0 < (text u).length := List.length_pos_iff.2 (text_ne u)
    rw [List.length_append, List.length_replicate]
    omega
  unfold okS
  rw [List.replicate_succ, List.cons_append] at h1 ⊢
  simp [h1]
  intros
  simpa using h1
theorem ok_odd (u : Nat) {c : UInt8} (h : isDig c = false) : okS (text u ++ [c]) = false := by
  unfold okS
  simp [h]
/-- the error of any text -/
def anyE (t : Bs) : Int := if okS t = true then parseE t else 40
theorem parse_any (s : ByteArray) (w : World) (hs : s.size ≤ 4611686018427387904) :
    Calls Tryz.prog 5 #[.string s] w fun e w' => (∃ v, e = .returned (.tuple #[v, .int .i64 (anyE s.data.toList)])) ∧ Below w.heap.size w w' := by
  unfold anyE
  by_cases h : okS s.data.toList = true
  · rw [if_pos h]
    exact (parse_ok s w hs h).mono fun e w' ⟨v, h1, _, h3⟩ => ⟨⟨v, h1⟩, h3⟩
  · rw [if_neg h]
    exact (parse_bad s w hs (by simpa using h)).mono fun e w' ⟨h1, h3⟩ => ⟨⟨_, h1⟩, h3⟩

theorem conv1 (d : Nat) (hd : d < 256) (w : World) : (convert 66 9 (.slice (some ⟨w.heap.size, 0, none⟩) 1 1)).run Tryz.prog (w.alloc (.cells #[.int .u8 (d : Int)] 5)) = .ok (.string (ba [UInt8.ofNat d])) (w.alloc (.cells #[.int .u8 (d : Int)] 5)) := by
  refine run_convert_bytes_back _ 66 9 5 ⟨w.heap.size, 0, none⟩ 1 [UInt8.ofNat d] (by kernel_rfl) (by kernel_rfl) (by kernel_rfl) (fun j hj => ?_)
  obtain rfl : j = 0 := by simpa using hj
  rw [show (⟨w.heap.size, 0, none⟩ : Addr).add 0 = ⟨w.heap.size, 0, none⟩ from by unfold Addr.add; simp, World.cell?_alloc_at _ _ _ _ rfl]
  have h2 : (UInt8.ofNat d).toNat = d := by rw [UInt8.toNat_ofNat']; omega
  simp [h2]

end Go.Proofs.YtgdlkpfkaehebaaGreatDoor.Dq
