/- digit.Base: the digits of a natural to a base. -/
import Derived.Test.YtgdlkpfkaehebaaGreatDoorTk
import Derived.Maps.OwnIn
set_option linter.unusedVariables false
namespace Go.Proofs.YtgdlkpfkaehebaaGreatDoor.Bs
open Go Go.RowKit Go.Proofs.YtgdlkpfkaehebaaGreatDoorW.PrintWords Go.Proofs.YtgdlkpfkaehebaaGreatDoorW.PrintLast Go.Proofs.YtgdlkpfkaehebaaGreatDoorW.PrintMore
open Nt Lm It Tk
attribute [local go_sem] Oper.semAt_some

def boxS (W : World) (B : Nat) (v : Value) : Prop := W.heap[B]? = some (.cells #[v] 23 (0, 0))
theorem boxS.cell {W : World} {B : Nat} {v : Value} (h : boxS W B v) : W.cell? ⟨B, 0, none⟩ = some v ∧ W.frozen? ⟨B, 0, none⟩ = false := ⟨cell_of_row W B 0 _ _ _ h, by simp [World.frozen?, show W.heap[B]? = _ from h]⟩
theorem boxS.row {W : World} {B : Nat} {v : Value} (h : boxS W B v) : Tk.rowAt B W = v.ownBlock := by unfold Tk.rowAt; rw [h.cell.1]
/-- between two rounds -/
structure BaseAt (w : World) (pre : List Nat) (W : World) : Prop where
  row : ∃ v, boxS W w.heap.size v ∧ Nw W w.heap.size v pre ∧ (∀ k, v.ownBlock = some k → w.heap.size + 3 ≤ k)
  below : Below w.heap.size w W
  len : pre.length ≤ 1000
theorem nw_block {w : World} {lo : Nat} {v : Value} {l : List Nat} (h : Nw w lo v l) (k : Nat) (hk : v.ownBlock = some k) : lo ≤ k ∧ ∃ cells, w.heap[k]? = some (.cells cells 31 (0, 0)) := by
  obtain ⟨_, inner, ho, _⟩ := h
  exact ⟨own_base ho k hk, own_typed ho k hk⟩
theorem nw_grown {w w' : World} {lo : Nat} {v : Value} {l : List Nat} (h : Nw w lo v l) {row : Option Nat} (hg : w.grownBy w' row) (hne : ∀ k, row = some k → some k ≠ v.ownBlock) : Nw w' lo v l := Kd.R_grown2 h rfl hg hne
theorem BaseAt.grown {w W W' : World} {pre : List Nat} {row : Option Nat} (h : BaseAt w pre W) (hg : W.grownBy W' row)
    (hr : ∀ r, row = some r → r = w.heap.size + 1 ∨ (w.heap.size + 3 ≤ r ∧ ∃ o : Obj, W.heap[r]? = some o ∧ o.isCells = false)) : BaseAt w pre W' := by
  obtain ⟨⟨v, h1, h2, h3⟩, h4, h5⟩ := h
  refine ⟨⟨v, ?_, nw_grown h2 hg ?_, h3⟩, h4.grown hg h4.size (fun k e => ?_), h5⟩
  · refine (hg.block _ (Array.getElem?_eq_some_iff.1 h1).1 (fun e => ?_)).trans h1
    rcases hr _ e.symm with h6 | ⟨h6, _⟩ <;> omega
  · intro k e e2
    rcases hr k e with h6 | ⟨h6, o, ho, hc⟩
    · have := h3 k e2.symm; omega
    · obtain ⟨_, cells, hk⟩ := nw_block h2 k e2.symm
      rw [hk] at ho
      cases ho
      cases hc
  · rcases hr k e with h6 | ⟨h6, _⟩ <;> omega

/-- one limb is appended, inside a fence -/
theorem app1_in {F : Fence} {nF : Nat} {ops : Array Oper} {rest : List Oper} {o : Oper} {a : Act} {Q : Exit → Act → World → Prop} {W : World} (lo : Nat) (hgd : o.guard = none) (s x : Operand)
    (ho : o.op = .call { callee := .builtin .append, args := #[s, x], argTypes := #[23, 23] }) (v : Value) (l : List Nat) (y : Nat) (hs : a.eval s = v) (hx : a.eval x = .slice (some ⟨W.heap.size, 0, none⟩) 1 1)
    (HO : Nw W lo v l) (hbase : lo ≤ W.heap.size) (hl : l.length ≤ 1000000)
    (h : ∀ v1 w1, Nw w1 lo v1 (l ++ [y]) → W.grownBy w1 v.ownBlock → (v1.ownBlock = v.ownBlock ∨ ∃ b, v1.ownBlock = some b ∧ W.heap.size ≤ b) → wpListIn F nF Tryz.prog ops Q rest (a.put o.dst v1) w1) :
    wpListIn F nF Tryz.prog ops Q (o :: rest) a (W.alloc (.cells #[.int .u64 (y : Int)] 31)) := by
  obtain ⟨i0, hi, hz0, hz1, hz2⟩ := info_parts Cl.infoU
  have hown := (Kd.own_of_R HO).alloc (.cells #[.int .u64 (y : Int)] 31)
  rw [ints_len] at hown
  refine wpListIn_append_own_at _ hgd s x 23 ho lo 31 i0 (.int .u64 0) 1 8 Tryz.underlying23 hi hz0 hz1 hz2 rfl (by decide) v l.length _ hs hown ⟨W.heap.size, 0, none⟩ 1 1 [.int .u64 (y : Int)] hx rfl (cell_one_new _ _ _) (by simp [Value.oneCell']) (by unfold maxLen; omega) (by omega) (by simp; omega) ?_
  intro v' w' h1 h2 h3 h4
  refine h v' w' ?_ (World.grownBy.trans (World.grownBy_alloc W _ _) h2) ?_
  · refine Kd.R_of_own ?_ (fun _ _ => trivial)
    have e : encs (Value.int .u64) (ints (l ++ [y])) = encs (Value.int .u64) (ints l) ++ [.int .u64 (y : Int)] := by rw [ints_app]; simp [encs, ints]
    rw [e, ints_len, List.length_append]
    exact h1
  · rcases h4 with h4 | h4
    · exact .inl h4
    · exact .inr ⟨_, h4, by simp⟩

end Go.Proofs.YtgdlkpfkaehebaaGreatDoor.Bs
