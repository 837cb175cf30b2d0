/- The call of the iterator that guard.frames hands out is proved: it hands on, one by one, the frames that Fr.G defines, or a first part of them. -/
import Derived.RangeFuncNested
import Derived.RangeFuncBound
import Derived.RangeFuncCalls
import Derived.RangeFuncLeaves
import Derived.Shelf.Abstract
import Derived.Shelf.RegionOpen
import Derived.WalkKit
import Derived.OwnWalkIn
import Derived.TacticsInMore
import Derived.LoopNIn
import Derived.LoopIn
import Derived.Maps.AppendAt
import Derived.Lib.Hide
import Derived.Test.YtjkjcimoeohijaaAllP
import Derived.Test.YtjkjcimoeohijaaGuardF
namespace Go.Proofs.Ytjkjcimoeohijaa
open Go.RowKit Go.Shelf Fr
attribute [local go_sem] Oper.semAt_some

def encF (x : F4) : Array Value := #[.int .i64 x.1, .agg #[.int .u64 x.2.1, .int .u64 x.2.2.1, .string (ba x.2.2.2)]]

theorem firstS_any (s : ByteArray) (w : World) (hs : s.size ≤ 140737488351232) :
    Calls Try.prog 13 #[.string s] w fun e w' => e = .returned (.tuple #[.agg #[.int .u64 (firstL s.data.toList).1, .int .u64 (firstL s.data.toList).2.1, .string (ba (firstL s.data.toList).2.2.1)], .string (ba (firstL s.data.toList).2.2.2.1), .int .i64 (firstL s.data.toList).2.2.2.2]) ∧ Below w.heap.size w w' :=
  PAll.guard_First.calls s _ _ _ _ _ w (Pure.first_some s hs)

theorem firstAt_any (s : ByteArray) (a : Nat) (w : World) (hs : s.size ≤ 140737488351232) :
    Calls Try.prog 13 #[.string (s.extract a s.size)] w fun e w' => e = .returned (.tuple #[.agg #[.int .u64 (firstL (s.data.toList.drop a)).1, .int .u64 (firstL (s.data.toList.drop a)).2.1, .string (ba (firstL (s.data.toList.drop a)).2.2.1)], .string (ba (firstL (s.data.toList.drop a)).2.2.2.1), .int .i64 (firstL (s.data.toList.drop a)).2.2.2.2]) ∧ Below w.heap.size w w' := by
  have h := firstS_any (s.extract a s.size) w (by rw [ByteArray.size_extract]; omega)
  have e : (s.extract a s.size).data.toList = s.data.toList.drop a := by rw [extract_list, ← list_size, List.take_length]
  rw [e] at h
  exact h

theorem below_grown {w w' : World} (h : Below w.heap.size w w') : w.grownBy w' none := ⟨h.os, h.tape, h.output, h.size, fun k hk _ => h.block k hk⟩

set_option maxHeartbeats 1000000 in
theorem frames_any (s : ByteArray) (w : World) :
    Calls Try.prog 26 #[.string s] w fun e w' => e = .returned (.func (.func 28) #[] #[.pointer (some ⟨w.heap.size, 0, none⟩)]) ∧ w' = w.alloc (.cells #[.string s] 9) := by
  go_enter Try.func26, Try.ntmps26
  go_wp2
  go_ret
  exact ⟨rfl, rfl⟩

/-- what a round keeps: block B -/
def KpB (B : Nat) (W W' : World) : Prop := W'.heap[B]? = W.heap[B]?

set_option maxRecDepth 100000 in
set_option maxHeartbeats 1000000 in
theorem frames1_in (n : Nat) (hn : 1 ≤ n) (l B : Nat) (s : ByteArray) (hs : s.size ≤ 1073741824) (J Jx : List F4 → World → Prop)
    (W : World) (hJ : AbidesFrom W.heap.size J)
    (hY : ∀ pre x W, J pre W → pre.length < s.size + 1 → YieldAt Fence.wide (n - 1) Try.prog l (encF x) W fun e W' =>
      (e = .returned (.bool true) ∧ J (pre ++ [x]) W' ∧ KpB B W W') ∨ (e = .returned (.bool false) ∧ Jx (pre ++ [x]) W'))
    (hB : Boxed W B 9 (.string s)) (h0 : J [] W) :
    CallsIn Fence.wide n Try.prog 28 #[.func (.yield l) #[] #[], .pointer (some ⟨B, 0, none⟩)] W fun e W' => (∃ v, e = .returned v) ∧
      ((∃ ys, ys = G s.data.toList 0 ∧ J ys W') ∨ (∃ pre, pre <+: G s.data.toList 0 ∧ Jx pre W')) := by
  refine callsIn_of_wp Try.func28 rfl trivial ?_ rfl
  simp only [Try.ntmps28, List.size_toArray, List.length_cons, List.length_nil, Nat.reduceAdd, Nat.reduceSub, Array.replicate_succ, Array.replicate_zero, List.push_toArray, List.append_toArray, List.nil_append, List.cons_append]
  gi_wp2
  gi_loopw [3] (fun p wr => ∃ (a : Nat) (pre : List F4), p = .int .i64 a ∧ a ≤ s.size ∧ G s.data.toList 0 = pre ++ G (s.data.toList.drop a) a ∧ Boxed wr B 9 (.string s) ∧ J pre wr)
    (fun p _ => s.size - (intOf p).toNat)
  case atStart => exact ⟨0, [], rfl, by omega, by simp, hB, h0⟩
  case round =>
    obtain ⟨a, pre, rfl, ha, hx, hb, hJs⟩ := hrel
    have hc := hb.cell
    have hc0 := first_rest (s := s.data.toList.drop a)
    have hok := @G_ok (s.data.toList.drop a) a
    have hno := @G_no (s.data.toList.drop a) a
    have hcall := firstAt_any s a
    unfold nextL at hok
    rcases hf : firstL (s.data.toList.drop a) with ⟨q, e, t, r, x⟩
    rw [hf] at hc0 hok hno hcall
    dsimp only at hc0 hok hno hcall
    have HC := Lib.hid hcall
    have HX := Lib.hid hx
    clear hcall hx hf
    by_cases h0x : x = 0
    · subst h0x
      obtain ⟨hr, hl, ht⟩ := hc0 rfl
      have hG := hok rfl
      have HG := Lib.hid hG
      clear hc0 hok hno hG
      have hpl : pre.length < s.size + 1 := by
        have h1 := congrArg List.length HX.out
        rw [HG.out, List.length_append, List.length_cons] at h1
        have h2 := G_len s.data.toList.length s.data.toList 0 (Nat.le_refl _)
        rw [list_size] at h2
        omega
      have hl2 : a + (24 + t.length) ≤ s.size := by rw [List.length_drop, list_size] at hl; omega
      have HR := Lib.hid hr
      clear hr hl
      gi_wp2_with fail
      refine ⟨trivial, ?_⟩
      refine (callsIn_wide.2 (HC.out _ (by omega))).mono ?_
      rintro e1 w' ⟨rfl, hb1⟩
      have hJ' : J pre (w'.alloc (.cells #[.int .u64 q, .int .u64 e, .string (ba t)] 29)) :=
        hJ pre _ _ none (hJ pre _ _ none hJs (below_grown hb1) (fun r e => by cases e)) (World.grownBy_alloc _ _ none) (fun r e => by cases e)
      have hb' : Boxed (w'.alloc (.cells #[.int .u64 q, .int .u64 e, .string (ba t)] 29)) B 9 (.string s) := (hb.kept (below_grown hb1) (by simp)).alloc _
      obtain ⟨fn, tmps, assign, body, hy, hR⟩ := hY pre (a + (24 + t.length), q, e, t) _ hJ' hpl
      unfold encF at hy
      dsimp only at hy
      rw [show ((a + (24 + t.length) : Nat) : Int) = (a : Int) + (20 + (t.length : Int) + 4) from by omega] at hy
      gi_wp2
      refine hR.mono ?_
      rintro e2 W3 (⟨rfl, hJ3, hk3⟩ | ⟨rfl, hJx3⟩)
      · have hb3 : Boxed W3 B 9 (.string s) := hk3.trans hb'
        gi_wp2
        go_roundw
        case rel => exact ⟨a + (24 + t.length), pre ++ [(a + (24 + t.length), q, e, t)], by go_num, hl2, by rw [HX.out, HG.out, List.drop_drop, List.append_assoc]; rfl, hb3, hJ3⟩
        case measure => simp [intOf]; omega
      · gi_wp2
        refine bodyPost_ret (results_none rfl _ _ _) rfl ?_
        refine ⟨⟨_, rfl⟩, .inr ⟨pre ++ [(a + (24 + t.length), q, e, t)], ⟨_, by rw [HX.out, HG.out]; exact List.append_cons .. |>.symm⟩, hJx3⟩⟩
    · have hG := hno h0x
      have HG := Lib.hid hG
      have ht : ((x : Int) != 0) = true := by rw [bne_iff_ne]; omega
      clear hc0 hok hno hG
      gi_wp2_with (refine ⟨trivial, ?_⟩; gi_at_call 13; refine (callsIn_wide.2 (HC.out _ (by omega))).mono ?_; rintro e w' ⟨rfl, hb1⟩)
      refine bodyPost_ret (results_none rfl _ _ _) rfl ?_
      refine ⟨⟨_, rfl⟩, .inl ⟨pre, by rw [HX.out, HG.out, List.append_nil], ?_⟩⟩
      exact hJ pre _ _ none (hJ pre _ _ none hJs (below_grown hb1) (fun r e => by cases e)) (World.grownBy_alloc _ _ none) (fun r e => by cases e)

theorem frames_stops (n : Nat) (hn : 1 ≤ n) (B : Nat) (s : ByteArray) (hs : s.size ≤ 1073741824) (w : World) (hB : Boxed w B 9 (.string s)) :
    SeqStopsK Fence.wide n Try.prog 28 #[.pointer (some ⟨B, 0, none⟩)] encF (KpB B) (fun ys => ys = G s.data.toList 0) (fun pre => pre <+: G s.data.toList 0) (s.size + 1) w := fun l J Jx W hW hJ _ hY h0 =>
  frames1_in n hn l B s hs J Jx W hJ hY ((hW.block B hB.lt).trans hB) h0

end Go.Proofs.Ytjkjcimoeohijaa
