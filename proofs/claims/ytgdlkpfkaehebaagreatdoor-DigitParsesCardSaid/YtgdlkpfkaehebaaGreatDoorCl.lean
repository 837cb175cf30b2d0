/- slices.Clone of a row of numbers. -/
import Derived.Test.YtgdlkpfkaehebaaGreatDoorWMore
import Derived.Test.YtgdlkpfkaehebaaGreatDoorProg
import Derived.BigQuiet
import Derived.Lib.LazyBuf
namespace Go.Proofs.YtgdlkpfkaehebaaGreatDoor.Cl
open Go Go.RowKit Go.Proofs.YtgdlkpfkaehebaaGreatDoorW.PrintWords Go.Proofs.YtgdlkpfkaehebaaGreatDoorW.PrintLast Go.Proofs.YtgdlkpfkaehebaaGreatDoorW.PrintMore

theorem infoU : (Tryz.prog.info? 31).map (fun i => (i.zero, i.size, i.bytes)) = some (some (.int .u64 0), 1, 8) := by kernel_rfl

set_option maxHeartbeats 2000000 in
set_option maxRecDepth 100000 in
theorem clone_call (A0 : Option Addr) (c0 : Nat) (l0 : List Int) (w : World) (hr0 : Kd.C (Kd.int .u64) w A0 l0.length l0) (hl : l0.length ≤ 1000000) :
    Calls Tryz.prog 79 #[.slice A0 l0.length c0] w fun e w' => ∃ v0_ : Value, e = .returned (v0_) ∧ Kd.R (Kd.int .u64) 31 w' w.heap.size (fun _ => True) v0_ l0 ∧ Below w.heap.size w w' := by
  have hq : ∀ (W : World), (binOp .eql 23 (.slice A0 l0.length c0) (.slice none 0 0)).run Tryz.prog W = .ok (.bool A0.isNone) W := fun W => Go.run_eql_slice_nil W _ _ A0 _ _ Tryz.underlying23
  cases hA : A0 with
  | none =>
    subst hA
    have h0 : l0 = [] := by
      have h := (Kd.reads_of_C (d := 0) hr0).2.2
      cases hz : l0 with
      | nil => rfl
      | cons x xs =>
        obtain ⟨ad, e, _⟩ := h (by simp [hz])
        cases e
    subst h0
    simp only [List.length_nil, Option.isNone_none] at hq
    go_enter Tryz.func79, Tryz.ntmps79
    go_wp2
    go_ret
    exact ⟨_, rfl, Kd.R_nil _ _ _ _ _, Below.refl _ _⟩
  | some ad =>
    subst hA
    simp only [Option.isNone_some] at hq
    have HR0 := hr0
    go_enter Tryz.func79, Tryz.ntmps79
    go_wp2_with (first
      | ((with_reducible refine gate_dst (N := 5) rfl ?_); refine Kd.R_lit (Kd.int .u64) _ 31 ?hg (N := 5) ?hd (xs := ([] : List Int)) (inner := []) (ok := fun _ => True) (okp := fun _ => True) ?hr ?hp (fun _ hk => hk) trivial (Below.refl _ _) (Nat.le_refl _) (by simp) ?_
         (case hd => rfl)
         (case hg => rfl)
         (case hr => first | (go_simp; done) | (go_simp; rfl))
         (case hp => exact (Reps.none _ _))
         intro v1 w1 ho1 hb1 hg1 hnew1)
      | ((with_reducible refine gate_builtin (b := .append) (xs := #[.tmp 5, .tmp 6]) rfl ?_)
         at_builtin
         refine Kd.R_append_rows (Kd.int .u64) (w0 := w) w.heap.size rfl (.tmp 5) (.tmp 6) 23 31 (.int .u64 0) 8 rfl Tryz.underlying23 infoU rfl (by decide) (by omega) v1 [] l0 (some ad) l0.length c0 (fun _ => True) (fun _ => False) rfl rfl ?aO ?aR (fun _ _ h => h) (fun _ h => h.elim) ?aF ?aB ?aS ?aL ?_
         (case aR => exact Kd.C_below HR0 hb1)
         (case aB => exact hb1)
         (case aF => exact (fun _ _ => trivial))
         (case aO => exact ho1)
         (case aS => exact hb1.size)
         (case aL => simp only [List.length_nil]; omega)
         intro v2 w2 ho hb hg hat))
    go_ret
    exact ⟨_, rfl, ho, hb⟩
end Go.Proofs.YtgdlkpfkaehebaaGreatDoor.Cl
