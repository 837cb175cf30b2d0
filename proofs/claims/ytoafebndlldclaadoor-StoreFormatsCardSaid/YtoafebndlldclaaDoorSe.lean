/- guard.All; the iterator over an area's sectors. -/
import Derived.Test.YtoafebndlldclaaDoorPa
import Derived.Test.YtoafebndlldclaaDoorPr1
import Derived.RangeFuncNested
import Derived.RangeFuncBound
import Derived.RangeFuncCalls
import Derived.RangeFuncLeaves
import Derived.Shelf.Abstract
import Derived.Shelf.RegionOpen
import Derived.WalkKit
import Derived.OwnWalkIn
import Derived.TacticsInMore
import Derived.LoopNIn
import Derived.LoopIn
import Derived.Maps.AppendAt
import Derived.Lib.Hide
import Derived.RegionTactic
import Derived.RegionIn
import Derived.Test.YtoafebndlldclaaDoorDg
namespace Go.Proofs.YtoafebndlldclaaDoor.Pure
open Go.RowKit Go.Proofs.YtoafebndlldclaaDoor.PAll Go.Proofs.YtoafebndlldclaaDoorW.PrintWords Go.Proofs.YtoafebndlldclaaDoorW.PrintLast Go.Proofs.YtoafebndlldclaaDoor.Fr

theorem fixed_some (n k : Nat) (hn : n < 18446744073709551616) (hk : k ≤ 8) : guard_fixed.f n k = some (ba (Num.fixL n k)) := by
  unfold guard_fixed.f; rw [if_pos (by omega)]; simp [ba]
theorem gsum_some (s : ByteArray) (h : s.size ≤ 9223372036854775807) : guard_Sum.f s = some ((Crc.crc s.data.toList : Nat) : Int) := by
  unfold guard_Sum.f; rw [if_pos h]
theorem gnum_some (s : ByteArray) (h : s.size ≤ 8) : guard_number.f s = some ((Num.numL s.data.toList : Nat) : Int) := by
  unfold guard_number.f; rw [if_pos h]
theorem wrap_u64 {x : Int} (h0 : 0 ≤ x) (h1 : x < 18446744073709551616) : IntKind.u64.wrap x = x := by
  exact IntWalk.u64_in x ⟨h0, by omega⟩
theorem wrap_in {x : Int} (h0 : 0 ≤ x) (h1 : x < 9223372036854775808) : wrap64 x = x := by unfold wrap64; omega

theorem put_some (q e : Nat) (t : ByteArray) (hq : q < 18446744073709551616) (he : e < 18446744073709551616) (ht : t.size ≤ 8192) :
    guard_Put.f q e t = some (ba (putL q e t.data.toList), 0) := by
  have f4 := Num.fixL_length 4 t.size
  have fq := Num.fixL_length 8 q
  have fe := Num.fixL_length 8 e
  have fc := Num.fixL_length 4 (Crc.crc (bodyL q e t.data.toList))
  have hl := list_size t
  have hb := bodyL_length q e t.data.toList
  unfold guard_Put.f
  rw [if_neg (by omega), wrap_u64 (by omega) (by omega)]
  rw [show ((4 : Int)) = ((4 : Nat) : Int) from rfl, show ((8 : Int)) = ((8 : Nat) : Int) from rfl]
  rw [fixed_some _ _ (by omega) (by omega), fixed_some _ _ (by omega) (by omega), fixed_some _ _ (by omega) (by omega)]
  simp only [Option.bind_some]
  rw [if_pos (by simp; omega)]
  have eb : ((ba (Num.fixL t.size 4) ++ ba (Num.fixL q 8)) ++ ba (Num.fixL e 8)) ++ t = ba (bodyL q e t.data.toList) := by
    have e : ∀ a : List UInt8, ba a ++ t = ba (a ++ t.data.toList) := fun a => by rw [← ba_append, ba_of]
    rw [ba_append, ba_append, e]; unfold bodyL; rw [hl]
  rw [if_pos (by rw [ba_append]; simp; omega), if_pos (by rw [ba_append, ba_append]; simp; omega), eb]
  rw [gsum_some (ba (bodyL q e t.data.toList)) (by rw [ba_size]; omega), ba_list]
  rw [Option.bind_some]
  have hc := Crc.crc_lt (bodyL q e t.data.toList)
  rw [wrap_u64 (by omega) (by omega), fixed_some _ _ (by omega) (by omega)]
  rw [Option.bind_some]
  rw [if_pos (by rw [ba_size, ba_size]; omega), ba_append]
  unfold putL
  exact rfl

theorem put_big (q e : Int) (t : ByteArray) (ht : 8192 < t.size) : guard_Put.f q e t = some (⟨#[]⟩, 71) := by
  unfold guard_Put.f
  rw [if_pos (by omega)]

theorem empty_iff (s : ByteArray) : s.toList = [] ↔ s.size = 0 := by
  rw [ByteArray.toList_eq]
  rw [← List.length_eq_zero_iff, list_size]

theorem first_some (s : ByteArray) (hs : s.size ≤ 140737488351232) : guard_First.f s = some (asV (firstL s.data.toList)) := by
  have hl := list_size s
  unfold guard_First.f
  by_cases h0 : s.size = 0
  · rw [firstL_empty (by omega), if_pos ((empty_iff s).2 h0)]; rfl
  rw [if_neg (fun h => h0 ((empty_iff s).1 h))]
  by_cases h1 : s.size < 24
  · rw [firstL_short (by omega) (by omega), if_pos (by omega)]; rfl
  rw [if_neg (by omega), if_pos (by omega), if_pos (by omega)]
  rw [gnum_some _ (by rw [ByteArray.size_extract]; omega)]
  simp only [Option.bind_some, extract_list, List.drop_zero]
  by_cases h2 : Num.numL (s.data.toList.take 4) > 8192
  · rw [firstL_cap (by omega) h2, if_pos (by omega)]; rfl
  rw [if_neg (by omega), wrap_in (x := (Num.numL (s.data.toList.take 4) : Int)) (by omega) (by omega), wrap_in (x := 20 + (Num.numL (s.data.toList.take 4) : Int)) (by omega) (by omega), wrap_in (x := 20 + (Num.numL (s.data.toList.take 4) : Int) + 4) (by omega) (by omega)]
  by_cases h3 : s.size < 24 + Num.numL (s.data.toList.take 4)
  · rw [firstL_cut (by omega) h2 (by omega), if_pos (by omega)]; rfl
  rw [if_neg (by omega), if_pos (by omega), if_pos (by omega)]
  rw [gsum_some _ (by rw [ByteArray.size_extract]; omega)]
  simp only [Option.bind_some, extract_list, List.drop_zero]
  rw [if_pos (by omega), if_pos (by omega), gnum_some _ (by rw [ByteArray.size_extract]; omega)]
  simp only [Option.bind_some, extract_list]
  rw [show (20 + (Num.numL (s.data.toList.take 4) : Int)).toNat = 20 + Num.numL (s.data.toList.take 4) from by omega, show (20 + (Num.numL (s.data.toList.take 4) : Int) + 4).toNat = 24 + Num.numL (s.data.toList.take 4) from by omega]
  have hc := Crc.crc_lt (s.data.toList.take (20 + Num.numL (s.data.toList.take 4)))
  rw [wrap_u64 (by omega) (by omega)]
  by_cases h4 : Crc.crc (s.data.toList.take (20 + Num.numL (s.data.toList.take 4))) = Num.numL ((s.data.toList.take (24 + Num.numL (s.data.toList.take 4))).drop (20 + Num.numL (s.data.toList.take 4)))
  rotate_left
  · rw [firstL_sum (by omega) h2 (by omega) h4, if_neg (by omega)]; rfl
  rw [firstL_ok (by omega) h2 (by omega) h4, if_pos (by omega), if_pos (by omega), if_pos (by omega), gnum_some _ (by rw [ByteArray.size_extract]; omega)]
  simp only [Option.bind_some, extract_list]
  rw [if_pos (by omega), if_pos (by omega), gnum_some _ (by rw [ByteArray.size_extract]; omega)]
  simp only [Option.bind_some, extract_list]
  rw [if_pos (by omega), if_pos (by omega)]
  unfold asV
  congr 1
  refine Prod.ext rfl (Prod.ext rfl (Prod.ext ?_ (Prod.ext ?_ rfl)))
  · apply ext_list; simp only [extract_list, ba_list]
  · apply ext_list; simp only [extract_list, ba_list]; rw [← hl, List.take_length]

end Go.Proofs.YtoafebndlldclaaDoor.Pure

namespace Go.Proofs.YtoafebndlldclaaDoor
open Go.RowKit Go.Shelf Fr
attribute [local go_sem] Oper.semAt_some

def encF (x : F4) : Array Value := #[.int .i64 x.1, .agg #[.int .u64 x.2.1, .int .u64 x.2.2.1, .string (ba x.2.2.2)]]

theorem firstS_any (s : ByteArray) (w : World) (hs : s.size ≤ 140737488351232) :
    Calls Tryd.prog 72 #[.string s] w fun e w' => e = .returned (.tuple #[.agg #[.int .u64 (firstL s.data.toList).1, .int .u64 (firstL s.data.toList).2.1, .string (ba (firstL s.data.toList).2.2.1)], .string (ba (firstL s.data.toList).2.2.2.1), .int .i64 (firstL s.data.toList).2.2.2.2]) ∧ Below w.heap.size w w' :=
  PAll.guard_First.calls s _ _ _ _ _ w (Pure.first_some s hs)

theorem firstAt_any (s : ByteArray) (a : Nat) (w : World) (hs : s.size ≤ 140737488351232) :
    Calls Tryd.prog 72 #[.string (s.extract a s.size)] w fun e w' => e = .returned (.tuple #[.agg #[.int .u64 (firstL (s.data.toList.drop a)).1, .int .u64 (firstL (s.data.toList.drop a)).2.1, .string (ba (firstL (s.data.toList.drop a)).2.2.1)], .string (ba (firstL (s.data.toList.drop a)).2.2.2.1), .int .i64 (firstL (s.data.toList.drop a)).2.2.2.2]) ∧ Below w.heap.size w w' := by
  have h := firstS_any (s.extract a s.size) w (by rw [ByteArray.size_extract]; omega)
  have e : (s.extract a s.size).data.toList = s.data.toList.drop a := by rw [extract_list, ← list_size, List.take_length]
  rw [e] at h
  exact h

theorem below_grown {w w' : World} (h : Below w.heap.size w w') : w.grownBy w' none := ⟨h.os, h.tape, h.output, h.size, fun k hk _ => h.block k hk⟩

set_option maxHeartbeats 1000000 in
theorem frames_any (s : ByteArray) (w : World) :
    Calls Tryd.prog 65 #[.string s] w fun e w' => e = .returned (.func (.func 79) #[] #[.pointer (some ⟨w.heap.size, 0, none⟩)]) ∧ w' = w.alloc (.cells #[.string s] 9) := by
  go_enter Tryd.func65, Tryd.ntmps65
  go_wp2
  go_ret
  exact ⟨rfl, rfl⟩

/-- what a round keeps: block B -/
def KpB (B : Nat) (W W' : World) : Prop := W'.heap[B]? = W.heap[B]?

set_option maxRecDepth 100000 in
set_option maxHeartbeats 1000000 in
theorem frames1_in (n : Nat) (hn : 1 ≤ n) (l B : Nat) (s : ByteArray) (hs : s.size ≤ 1073741824) (J Jx : List F4 → World → Prop)
    (W : World) (hJ : AbidesFrom W.heap.size J)
    (hY : ∀ pre x W, J pre W → pre.length < s.size + 1 → YieldAt Fence.wide (n - 1) Tryd.prog l (encF x) W fun e W' =>
      (e = .returned (.bool true) ∧ J (pre ++ [x]) W' ∧ KpB B W W') ∨ (e = .returned (.bool false) ∧ Jx (pre ++ [x]) W'))
    (hB : Boxed W B 9 (.string s)) (h0 : J [] W) :
    CallsIn Fence.wide n Tryd.prog 79 #[.func (.yield l) #[] #[], .pointer (some ⟨B, 0, none⟩)] W fun e W' => (∃ v, e = .returned v) ∧
      ((∃ ys, ys = G s.data.toList 0 ∧ J ys W') ∨ (∃ pre, pre <+: G s.data.toList 0 ∧ Jx pre W')) := by
  refine callsIn_of_wp Tryd.func79 rfl trivial ?_ rfl
  simp only [Tryd.ntmps79, List.size_toArray, List.length_cons, List.length_nil, Nat.reduceAdd, Nat.reduceSub, Array.replicate_succ, Array.replicate_zero, List.push_toArray, List.append_toArray, List.nil_append, List.cons_append]
  gi_wp2
  gi_loopw [3] (fun p wr => ∃ (a : Nat) (pre : List F4), p = .int .i64 a ∧ a ≤ s.size ∧ G s.data.toList 0 = pre ++ G (s.data.toList.drop a) a ∧ Boxed wr B 9 (.string s) ∧ J pre wr)
    (fun p _ => s.size - (intOf p).toNat)
  case atStart => exact ⟨0, [], rfl, by omega, by simp, hB, h0⟩
  case round =>
    obtain ⟨a, pre, rfl, ha, hx, hb, hJs⟩ := hrel
    have hc := hb.cell
    have hc0 := first_rest (s := s.data.toList.drop a)
    have hok := @G_ok (s.data.toList.drop a) a
    have hno := @G_no (s.data.toList.drop a) a
    have hcall := firstAt_any s a
    unfold nextL at hok
    rcases hf : firstL (s.data.toList.drop a) with ⟨q, e, t, r, x⟩
    rw [hf] at hc0 hok hno hcall
    dsimp only at hc0 hok hno hcall
    have HC := Lib.hid hcall
    have HX := Lib.hid hx
    clear hcall hx hf
    by_cases h0x : x = 0
    · subst h0x
      obtain ⟨hr, hl, ht⟩ := hc0 rfl
      have hG := hok rfl
      have HG := Lib.hid hG
      clear hc0 hok hno hG
      have hpl : pre.length < s.size + 1 := by
        have h1 := congrArg List.length HX.out
        rw [HG.out, List.length_append, List.length_cons] at h1
        have h2 := G_len s.data.toList.length s.data.toList 0 (Nat.le_refl _)
        rw [list_size] at h2
        omega
      have hl2 : a + (24 + t.length) ≤ s.size := by rw [List.length_drop, list_size] at hl; omega
      have HR := Lib.hid hr
      clear hr hl
      gi_wp2_with fail
      refine ⟨trivial, ?_⟩
      refine (callsIn_wide.2 (HC.out _ (by omega))).mono ?_
      rintro e1 w' ⟨rfl, hb1⟩
      have hJ' : J pre (w'.alloc (.cells #[.int .u64 q, .int .u64 e, .string (ba t)] 100)) :=
        hJ pre _ _ none (hJ pre _ _ none hJs (below_grown hb1) (fun r e => by cases e)) (World.grownBy_alloc _ _ none) (fun r e => by cases e)
      have hb' : Boxed (w'.alloc (.cells #[.int .u64 q, .int .u64 e, .string (ba t)] 100)) B 9 (.string s) := (hb.kept (below_grown hb1) (by simp)).alloc _
      obtain ⟨fn, tmps, assign, body, hy, hR⟩ := hY pre (a + (24 + t.length), q, e, t) _ hJ' hpl
      unfold encF at hy
      dsimp only at hy
      rw [show ((a + (24 + t.length) : Nat) : Int) = (a : Int) + (20 + (t.length : Int) + 4) from by omega] at hy
      gi_wp2
      refine hR.mono ?_
      rintro e2 W3 (⟨rfl, hJ3, hk3⟩ | ⟨rfl, hJx3⟩)
      · have hb3 : Boxed W3 B 9 (.string s) := hk3.trans hb'
        gi_wp2
        go_roundw
        case rel => exact ⟨a + (24 + t.length), pre ++ [(a + (24 + t.length), q, e, t)], by go_num, hl2, by rw [HX.out, HG.out, List.drop_drop, List.append_assoc]; rfl, hb3, hJ3⟩
        case measure => simp [intOf]; omega
      · gi_wp2
        refine bodyPost_ret (results_none rfl _ _ _) rfl ?_
        refine ⟨⟨_, rfl⟩, .inr ⟨pre ++ [(a + (24 + t.length), q, e, t)], ⟨_, by rw [HX.out, HG.out]; exact List.append_cons .. |>.symm⟩, hJx3⟩⟩
    · have hG := hno h0x
      have HG := Lib.hid hG
      have ht : ((x : Int) != 0) = true := by rw [bne_iff_ne]; omega
      clear hc0 hok hno hG
      gi_wp2_with (refine ⟨trivial, ?_⟩; gi_at_call 72; refine (callsIn_wide.2 (HC.out _ (by omega))).mono ?_; rintro e w' ⟨rfl, hb1⟩)
      refine bodyPost_ret (results_none rfl _ _ _) rfl ?_
      refine ⟨⟨_, rfl⟩, .inl ⟨pre, by rw [HX.out, HG.out, List.append_nil], ?_⟩⟩
      exact hJ pre _ _ none (hJ pre _ _ none hJs (below_grown hb1) (fun r e => by cases e)) (World.grownBy_alloc _ _ none) (fun r e => by cases e)

theorem frames_stops (n : Nat) (hn : 1 ≤ n) (B : Nat) (s : ByteArray) (hs : s.size ≤ 1073741824) (w : World) (hB : Boxed w B 9 (.string s)) :
    SeqStopsK Fence.wide n Tryd.prog 79 #[.pointer (some ⟨B, 0, none⟩)] encF (KpB B) (fun ys => ys = G s.data.toList 0) (fun pre => pre <+: G s.data.toList 0) (s.size + 1) w := fun l J Jx W hW hJ _ hY h0 =>
  frames1_in n hn l B s hs J Jx W hJ hY ((hW.block B hB.lt).trans hB) h0

end Go.Proofs.YtoafebndlldclaaDoor

namespace Go.Proofs.YtoafebndlldclaaDoor
open Go.RowKit Go.Shelf Fr
attribute [local go_sem] Oper.semAt_some

def enc3 (x : F4) : List Value := [.int .u64 x.2.1, .int .u64 x.2.2.1, .string (ba x.2.2.2)]
theorem info29 : (Tryd.prog.info? 100).map (fun i => (i.zero, i.size, i.bytes)) = some (some (.agg #[(.int .u64 0), (.int .u64 0), (.string ⟨#[]⟩)]), 3, 32) := by kernel_rfl

theorem cells_new (w : World) (l : List Value) (t : TypeId) : ∀ j u, l[j]? = some u → (w.alloc (.cells l.toArray t)).cell? ((⟨w.heap.size, 0, none⟩ : Addr).add j) = some u := by
  intro j u h
  rw [show (⟨w.heap.size, 0, none⟩ : Addr).add j = ⟨w.heap.size, j, none⟩ from by unfold Addr.add; split <;> simp_all]
  rw [World.cell?_alloc_at _ _ _ _ rfl]
  simpa using h

set_option maxRecDepth 100000 in
set_option maxHeartbeats 4000000 in
theorem all_any (s : ByteArray) (ep : Nat) (w : World) (hs : s.size ≤ 1073741824) :
    Calls Tryd.prog 48 #[.string s, .int .u64 ep] w fun e w' => ∃ v, e = .returned (.tuple #[v, .int .i64 ((allL ep 0 0 (G s.data.toList 0)).2 : Nat)]) ∧
      w'.ownsRow w.heap.size 100 3 v (allL ep 0 0 (G s.data.toList 0)).1.length ((allL ep 0 0 (G s.data.toList 0)).1.flatMap enc3) ∧ Below w.heap.size w w' := by
  refine (callsIn_wide (n := 6)).1 ?_
  obtain ⟨i0, hi, hz0, hz1, hz2⟩ := info_parts info29
  refine callsIn_of_wp_marks Tryd.func48 rfl trivial ?_ rfl
  simp only [Tryd.ntmps48, List.size_toArray, List.length_cons, List.length_nil, Nat.reduceAdd, Nat.reduceSub, Array.replicate_succ, Array.replicate_zero, List.push_toArray, List.append_toArray, List.nil_append, List.cons_append]
  gi_wp2_with (refine ⟨trivial, ?_⟩; gi_at_call 65; refine (callsIn_wide.2 (frames_any _ _)).mono ?_; rintro e w' ⟨rfl, rfl⟩)
  have bE := (((Boxed.new w 23 (.int .u64 ep)).alloc (.cells #[.slice none 0 0] 94)).alloc (.cells #[.int .i64 0] 3)).alloc (.cells #[.string s] 9)
  have bL := ((Boxed.new (w.alloc (.cells #[.int .u64 ep] 23)) 94 (.slice none 0 0)).alloc (.cells #[.int .i64 0] 3)).alloc (.cells #[.string s] 9)
  have bN := (Boxed.new ((w.alloc (.cells #[.int .u64 ep] 23)).alloc (.cells #[.slice none 0 0] 94)) 3 (.int .i64 0)).alloc (.cells #[.string s] 9)
  have bS := Boxed.new (((w.alloc (.cells #[.int .u64 ep] 23)).alloc (.cells #[.slice none 0 0] 94)).alloc (.cells #[.int .i64 0] 3)) 9 (.string s)
  simp only [World.size_alloc] at bL bN bS
  have hB0 : Below w.heap.size w ((((w.alloc (.cells #[.int .u64 ep] 23)).alloc (.cells #[.slice none 0 0] 94)).alloc (.cells #[.int .i64 0] 3)).alloc (.cells #[.string s] 9)) :=
    ((((Below.refl _ w).alloc (Nat.le_refl _) _).alloc (by simp) _).alloc (by simp; omega) _).alloc (by simp; omega) _
  have hsz : ((((w.alloc (.cells #[.int .u64 ep] 23)).alloc (.cells #[.slice none 0 0] 94)).alloc (.cells #[.int .i64 0] 3)).alloc (.cells #[.string s] 9)).heap.size = w.heap.size + 4 := by simp
  obtain ⟨W0, hW0⟩ : ∃ W0, (((w.alloc (.cells #[.int .u64 ep] 23)).alloc (.cells #[.slice none 0 0] 94)).alloc (.cells #[.int .i64 0] 3)).alloc (.cells #[.string s] 9) = W0 := ⟨_, rfl⟩
  rw [hW0] at bE bL bN bS hB0 hsz ⊢
  clear hW0
  obtain ⟨b, hb⟩ : ∃ b, w.heap.size = b := ⟨_, rfl⟩
  rw [hb] at bE bL bN bS hB0 hsz ⊢
  rw [show b + 1 + 1 = b + 2 from rfl] at bN ⊢
  rw [show b + 2 + 1 = b + 3 from rfl] at bS ⊢
  have hI : OwnFrom W0.heap.size (fun (pre : List F4) W => ((((goods ep 0 pre ∧ ∃ v, Boxed W (b + 1) 94 v ∧ W.ownsRow b 100 3 v pre.length (pre.flatMap enc3) ∧ True) ∧ Boxed W (b + 2) 3 (.int .i64 (lastEnd 0 pre : Nat))) ∧ Boxed W b 23 (.int .u64 ep)) ∧ Boxed W (b + 3) 9 (.string s)) ∧ Below b w W) :=
    OwnFrom.and (OwnFrom.and (OwnFrom.and (OwnFrom.and (OwnFrom.and (ownFrom_pure _ _) (Own.from (holdsRow_own b (b + 1) 94 100 3 (fun (pre : List F4) => pre.length) (fun pre => pre.flatMap enc3) (fun _ _ => True)) _))
      (Own.from (boxed_own _ _ (fun (pre : List F4) => Value.int .i64 (lastEnd 0 pre : Nat))) _)) (Own.from (boxed_own _ _ _) _)) (Own.from (boxed_own _ _ _) _)) (ownFrom_below (by omega) (by omega))
  refine wpIn_rangeFunc_ownH rfl (by omega) (gf := 79) (lb := #[.pointer (some ⟨b + 3, 0, none⟩)]) rfl trivial (enters_of Tryd.func79 (by kernel_rfl) rfl)
    (frames_stops 5 (by omega) (b + 3) s hs W0 bS) (Kp := KpB (b + 3)) (fun h k => k.trans h) (fun W l o o' hl h _ _ => World.putObj_heap_other (by omega)) (Below.refl _ _) (fun _ => rfl)
    (fun pre W => ((((goods ep 0 pre ∧ ∃ v, Boxed W (b + 1) 94 v ∧ W.ownsRow b 100 3 v pre.length (pre.flatMap enc3) ∧ True) ∧ Boxed W (b + 2) 3 (.int .i64 (lastEnd 0 pre : Nat))) ∧ Boxed W b 23 (.int .u64 ep)) ∧ Boxed W (b + 3) 9 (.string s)) ∧ Below b w W)
    (fun c pre W => c = .exit 0 ∧ ∃ pre' x, pre = pre' ++ [x] ∧ good ep pre'.length x = false ∧ ((((goods ep 0 pre' ∧ ∃ v, Boxed W (b + 1) 94 v ∧ W.ownsRow b 100 3 v pre'.length (pre'.flatMap enc3) ∧ True) ∧ Boxed W (b + 2) 3 (.int .i64 (lastEnd 0 pre' : Nat))) ∧ Boxed W b 23 (.int .u64 ep)) ∧ Boxed W (b + 3) 9 (.string s)) ∧ Below b w W)
    hI (fun c pre X Y row hs2 hg hr => by
      obtain ⟨hc, pre', x, hp, hgd, hrest⟩ := hs2
      exact ⟨hc, pre', x, hp, hgd, hI pre' X Y row hrest hg hr⟩)
    ⟨⟨⟨⟨⟨trivial, _, bL, World.ownsRow_nil _ _ _ _, trivial⟩, bN⟩, bE⟩, bS⟩, hB0⟩
    (fun x a' W => ∃ Bx, b + 3 < Bx ∧ W.heap[Bx]? = some (.cells #[.int .u64 x.2.1, .int .u64 x.2.2.1, .string (ba x.2.2.2)] 100 (0, 0)) ∧
      a' = { tmps := #[.string s, .int .u64 ep, undef, .pointer (some ⟨b, 0, none⟩), .pointer (some ⟨b + 1, 0, none⟩), .pointer (some ⟨b + 2, 0, none⟩), .int .i64 x.1, .pointer (some ⟨Bx, 0, none⟩), .string s, .func (.func 79) #[] #[.pointer (some ⟨b + 3, 0, none⟩)],
        .int .i64 x.1, .agg #[.int .u64 x.2.1, .int .u64 x.2.2.1, .string (ba x.2.2.2)], undef, undef, undef, undef, undef, undef, undef, undef, undef, undef, undef, undef, undef, undef, undef, undef, undef, undef, undef, undef], defers := [] })
    (fun x a' _ X Y row hs2 hg hr => by
      obtain ⟨Bx, e1, e2, e3⟩ := hs2
      refine ⟨Bx, e1, ?_, e3⟩
      rw [hg.block Bx (Array.getElem?_eq_some_iff.1 e2).1 (fun h => ?_)]
      · exact e2
      · obtain ⟨o, ho, hc⟩ := (hr Bx h.symm).2
        rw [e2] at ho; cases ho; cases hc)
    ?assign ?body ?done ?stop
  case assign =>
    rintro l pre x W K ⟨⟨⟨⟨⟨hgd, v, hv, hrow, _⟩, hn⟩, he⟩, hsb⟩, hB⟩ hK
    obtain ⟨en, q, e, t⟩ := x
    simp only [encF]
    gi_wp2
    exact hK _ _ ((KeepsOthers.alloc _ _).from _) (Below.heap_alloc W _ _ hsb.lt) ⟨⟨⟨⟨⟨hgd, v, hv.alloc _, hrow.alloc _, trivial⟩, hn.alloc _⟩, he.alloc _⟩, hsb.alloc _⟩, hB.alloc (by have := hB.size; omega) _⟩
      ⟨W.heap.size, hsb.lt, World.alloc_heap_new W _, rfl⟩
  case body =>
    rintro l pre x a' W hl ⟨r, hr⟩ ⟨⟨⟨⟨⟨hgd, v, hv, hrow, _⟩, hn⟩, he⟩, hsb⟩, hB⟩ ⟨Bx, hBx, hx, rfl⟩ hlt
    obtain ⟨en, q, e, t⟩ := x
    dsimp only at hx ⊢
    have c1 := hv.cell
    have c2 := hn.cell
    have c3 := he.cell
    have cx0 : W.cell? ⟨Bx, 0, none⟩ = some (.int .u64 q) := by simp [World.cell?, hx]
    have cx1 : W.cell? ⟨Bx, 1, none⟩ = some (.int .u64 e) := by simp [World.cell?, hx]
    have cx2 : W.cell? ⟨Bx, 2, none⟩ = some (.string (ba t)) := by simp [World.cell?, hx]
    by_cases h1 : e = ep
    · by_cases h2 : q = pre.length + 1
      · have t1 : ((e : Int) != (ep : Int)) = false := by simp [h1]
        have t2 : ((q : Int) != ((pre.length : Int) + 1)) = false := by rw [bne_eq_false_iff_eq]; omega
        have hgood : good ep (0 + pre.length) (en, q, e, t) = true := by simp [good, h1, h2]
        have HGS := Lib.hid (goods_snoc ep pre 0 (en, q, e, t) hgd hgood)
        have HLE := Lib.hid (lastEnd_snoc pre 0 (en, q, e, t))
        have HFM : Hid ((pre ++ [(en, q, e, t)]).flatMap enc3 = pre.flatMap enc3 ++ [.int .u64 q, .int .u64 e, .string (ba t)]) := by
          show _ = _
          rw [List.flatMap_append]; rfl
        clear hgood h1 h2
        have hlen : ∃ A c, v = .slice A pre.length c := by
          rcases hrow.2 with ⟨rfl, hz⟩ | ⟨g, c, cur, rfl, _⟩
          · exact ⟨none, 0, by rw [hz]⟩
          · exact ⟨_, c, rfl⟩
        obtain ⟨A, c, rfl⟩ := hlen
        have hpl : pre.length ≤ 1073741824 := by omega
        have hbW := hB.size
        gi_wp2_with (gi_at_builtin; refine wpListIn_append_own _ rfl _ _ 94 rfl b 100 i0 (.agg #[.int .u64 0, .int .u64 0, .string ⟨#[]⟩]) 3 32 Tryd.underlying94 hi hz0 hz1 hz2 rfl (by decide) _ _ _ rfl (hrow.alloc _) ⟨W.heap.size, 0, none⟩ 1 1 [.int .u64 q, .int .u64 e, .string (ba t)] rfl rfl (cells_new _ _ _) (by simp [Value.oneCell']) (by unfold maxLen; omega) (by omega) (by simp; omega) ?_; intro v' w1 hown' hgrow _; obtain ⟨g', cap', rfl⟩ := ownsRow_succ hown'; obtain ⟨hv1, hv2, hr2, hk2, hb2⟩ := hv.appended (by decide) hrow (by omega) (by omega) hown' hgrow; have hc1 := hv1.cell; have hf1 := hv1.frozen; have hn1 := (hn.alloc (.cells #[.int .u64 q, .int .u64 e, .string (ba t)] 100)).kept hgrow (hn.not_row (by decide) hrow); have hc2 := hn1.cell; have hf2 := hn1.frozen)
        have hn2 := hn1.other (B' := b + 1) (by omega) (.slice (some ⟨g', 0, none⟩) (pre.length + 1) cap')
        have he2 := ((he.alloc (.cells #[.int .u64 q, .int .u64 e, .string (ba t)] 100)).kept hgrow (he.not_row (by decide) hrow)).other (B' := b + 1) (by omega) (.slice (some ⟨g', 0, none⟩) (pre.length + 1) cap')
        have hs2 := ((hsb.alloc (.cells #[.int .u64 q, .int .u64 e, .string (ba t)] 100)).kept hgrow (hsb.not_row (by decide) hrow)).other (B' := b + 1) (by omega) (.slice (some ⟨g', 0, none⟩) (pre.length + 1) cap')
        have hs3 := hs2.other (B' := b + 2) (by omega) (.int .i64 en)
        refine ⟨(hk2.trans (KeepsOthers.setCell _ _ _)).from _, hs3.trans hsb.symm, ⟨⟨⟨⟨by simpa using HGS.out, _, hv2.other (B' := b + 2) (by omega) _, ?_⟩, ?_⟩, he2.other (B' := b + 2) (by omega) _⟩, hs3⟩, hB.trans (hb2.setCell (p := ⟨b + 2, 0, none⟩) (by show b ≤ b + 2; omega) _)⟩
        · rw [HFM.out, List.length_append]
          exact hr2.kept (grownBy_setCell' _ (b + 2) _) (.inr (hn2.not_row (by decide) hr2).symm)
        · rw [HLE.out]
          exact hn2.set _
      · have t1 : ((e : Int) != (ep : Int)) = false := by simp [h1]
        have t2 : ((q : Int) != ((pre.length : Int) + 1)) = true := by rw [bne_iff_ne]; omega
        have hbad : good ep pre.length (en, q, e, t) = false := by simp [good, h2]
        have HBD := Lib.hid hbad
        clear hbad
        have hlen : ∃ A c, v = .slice A pre.length c := by
          rcases hrow.2 with ⟨rfl, hz⟩ | ⟨g, c, cur, rfl, _⟩
          · exact ⟨none, 0, by rw [hz]⟩
          · exact ⟨_, c, rfl⟩
        obtain ⟨A, c, rfl⟩ := hlen
        have hpl : pre.length ≤ 1073741824 := by omega
        gi_wp2
        exact ⟨KeepsFrom.refl _ _, rfl, pre, (en, q, e, t), rfl, HBD.out, ⟨⟨⟨⟨hgd, _, hv, hrow, trivial⟩, hn⟩, he⟩, hsb⟩, hB⟩
    · have t1 : ((e : Int) != (ep : Int)) = true := by rw [bne_iff_ne]; omega
      have hbad : good ep pre.length (en, q, e, t) = false := by simp [good, h1]
      have HBD := Lib.hid hbad
      clear hbad
      gi_wp2
      exact ⟨KeepsFrom.refl _ _, rfl, pre, (en, q, e, t), rfl, HBD.out, ⟨⟨⟨⟨hgd, v, hv, hrow, trivial⟩, hn⟩, he⟩, hsb⟩, hB⟩
  case done =>
    rintro D xs W hD hxs ⟨⟨⟨⟨⟨hgd, v, hv, hrow, _⟩, hn⟩, he⟩, hsb⟩, hB⟩ hK
    have hA := allL_goods ep xs 0 0 [] hgd
    rw [List.append_nil] at hA
    simp only [allL, List.append_nil] at hA
    have HA := Lib.hid hA
    have HXS := Lib.hid hxs
    clear hA hxs
    have hlen : ∃ A c, v = .slice A xs.length c := by
      rcases hrow.2 with ⟨rfl, hz⟩ | ⟨g, c, cur, rfl, _⟩
      · exact ⟨none, 0, by rw [hz]⟩
      · exact ⟨_, c, rfl⟩
    obtain ⟨A, c, rfl⟩ := hlen
    have c1 := hv.cell
    have c2 := hn.cell
    have f1 := hv.frozen
    have f2 := hn.frozen
    gi_wp2
    gi_region
    all_goals gi_wp2
    have hbW := hB.size
    have hK2 : (((W.setCell ⟨b + 1, 0, none⟩ (.slice A xs.length c)).setCell ⟨b + 2, 0, none⟩ (.int .i64 (lastEnd 0 xs : Nat))).drew).heap[D]? = some (.deferred (some [])) := by
      show ((W.setCell ⟨b + 1, 0, none⟩ (.slice A xs.length c)).setCell ⟨b + 2, 0, none⟩ (.int .i64 (lastEnd 0 xs : Nat))).heap[D]? = _
      rw [Below.heap_setCell _ _ _ _ (by show D ≠ b + 2; omega), Below.heap_setCell _ _ _ _ (by show D ≠ b + 1; omega)]; exact hK
    refine ⟨by simp, .inl ⟨_, _, rfl, run_takeDeferred hK2, ?_⟩⟩
    have v1 := hv.set (.slice A xs.length c)
    have v2 := v1.other (B' := b + 2) (by omega) (.int .i64 (lastEnd 0 xs : Nat))
    have n1 := (hn.other (B' := b + 1) (by omega) (.slice A xs.length c)).set (.int .i64 (lastEnd 0 xs : Nat))
    have r2 := (hrow.kept (grownBy_setCell' W (b + 1) (.slice A xs.length c)) (.inr (hv.not_row (by decide) hrow).symm)).kept (grownBy_setCell' _ (b + 2) (.int .i64 (lastEnd 0 xs : Nat)))
      (.inr ((hn.other (B' := b + 1) (by omega) (.slice A xs.length c)).not_row (by decide) (hrow.kept (grownBy_setCell' W (b + 1) (.slice A xs.length c)) (.inr (hv.not_row (by decide) hrow).symm))).symm)
    have b2 : Below b w ((W.setCell ⟨b + 1, 0, none⟩ (.slice A xs.length c)).setCell ⟨b + 2, 0, none⟩ (.int .i64 (lastEnd 0 xs : Nat))) :=
      (hB.setCell (p := ⟨b + 1, 0, none⟩) (by show b ≤ b + 1; omega) _).setCell (p := ⟨b + 2, 0, none⟩) (by show b ≤ b + 2; omega) _
    generalize (W.setCell ⟨b + 1, 0, none⟩ (.slice A xs.length c)).setCell ⟨b + 2, 0, none⟩ (.int .i64 (lastEnd 0 xs : Nat)) = W3 at *
    have e1 := ((show Boxed W3.drew (b + 1) 94 (.slice A xs.length c) from v2).kept (grownBy_putObj' W3.drew D (.deferred none)) (by simp; omega)).cell
    have e2 := ((show Boxed W3.drew (b + 2) 3 (.int .i64 (lastEnd 0 xs : Nat)) from n1).kept (grownBy_putObj' W3.drew D (.deferred none)) (by simp; omega)).cell
    refine ⟨.tuple #[.slice A xs.length c, .int .i64 (lastEnd 0 xs : Nat)], ?_, .slice A xs.length c, ?_, ?_, ?_⟩
    · simp [results, Tryd.results48, go_sem, e1, e2]
    · rw [← HXS.out, HA.out]
    · rw [← HXS.out, HA.out, hb]
      exact ownsRow_putObj (W := W3) r2 _ hK2 rfl
    · rw [hb]
      exact b2.drew.grown (grownBy_putObj' W3.drew D (.deferred none)) (by have := b2.size; show b ≤ W3.heap.size; omega) (fun k e => by cases e; omega)
  case stop =>
    rintro D c pre W hD hpre ⟨rfl, xs, x, rfl, hbad, ⟨⟨⟨⟨hgd, v, hv, hrow, _⟩, hn⟩, he⟩, hsb⟩, hB⟩ hK
    obtain ⟨r, hr⟩ := hpre
    have hA := allL_goods ep xs 0 0 (x :: r) hgd
    simp only [allL, Nat.zero_add, hbad, Bool.false_eq_true, if_false, List.append_nil] at hA
    rw [show xs ++ x :: r = G s.data.toList 0 from by rw [← hr]; simp] at hA
    have HA := Lib.hid hA
    have HBD := Lib.hid hbad
    clear hA hbad hr
    have hlen : ∃ A c, v = .slice A xs.length c := by
      rcases hrow.2 with ⟨rfl, hz⟩ | ⟨g, c, cur, rfl, _⟩
      · exact ⟨none, 0, by rw [hz]⟩
      · exact ⟨_, c, rfl⟩
    obtain ⟨A, c, rfl⟩ := hlen
    have c1 := hv.cell
    have c2 := hn.cell
    have f1 := hv.frozen
    have f2 := hn.frozen
    gi_wp2
    gi_region
    all_goals gi_wp2
    have hbW := hB.size
    have hK2 : (((W.setCell ⟨b + 1, 0, none⟩ (.slice A xs.length c)).setCell ⟨b + 2, 0, none⟩ (.int .i64 (lastEnd 0 xs : Nat))).drew).heap[D]? = some (.deferred (some [])) := by
      show ((W.setCell ⟨b + 1, 0, none⟩ (.slice A xs.length c)).setCell ⟨b + 2, 0, none⟩ (.int .i64 (lastEnd 0 xs : Nat))).heap[D]? = _
      rw [Below.heap_setCell _ _ _ _ (by show D ≠ b + 2; omega), Below.heap_setCell _ _ _ _ (by show D ≠ b + 1; omega)]; exact hK
    refine ⟨by simp, .inl ⟨_, _, rfl, run_takeDeferred hK2, ?_⟩⟩
    have v1 := hv.set (.slice A xs.length c)
    have v2 := v1.other (B' := b + 2) (by omega) (.int .i64 (lastEnd 0 xs : Nat))
    have n1 := (hn.other (B' := b + 1) (by omega) (.slice A xs.length c)).set (.int .i64 (lastEnd 0 xs : Nat))
    have r2 := (hrow.kept (grownBy_setCell' W (b + 1) (.slice A xs.length c)) (.inr (hv.not_row (by decide) hrow).symm)).kept (grownBy_setCell' _ (b + 2) (.int .i64 (lastEnd 0 xs : Nat)))
      (.inr ((hn.other (B' := b + 1) (by omega) (.slice A xs.length c)).not_row (by decide) (hrow.kept (grownBy_setCell' W (b + 1) (.slice A xs.length c)) (.inr (hv.not_row (by decide) hrow).symm))).symm)
    have b2 : Below b w ((W.setCell ⟨b + 1, 0, none⟩ (.slice A xs.length c)).setCell ⟨b + 2, 0, none⟩ (.int .i64 (lastEnd 0 xs : Nat))) :=
      (hB.setCell (p := ⟨b + 1, 0, none⟩) (by show b ≤ b + 1; omega) _).setCell (p := ⟨b + 2, 0, none⟩) (by show b ≤ b + 2; omega) _
    generalize (W.setCell ⟨b + 1, 0, none⟩ (.slice A xs.length c)).setCell ⟨b + 2, 0, none⟩ (.int .i64 (lastEnd 0 xs : Nat)) = W3 at *
    have e1 := ((show Boxed W3.drew (b + 1) 94 (.slice A xs.length c) from v2).kept (grownBy_putObj' W3.drew D (.deferred none)) (by simp; omega)).cell
    have e2 := ((show Boxed W3.drew (b + 2) 3 (.int .i64 (lastEnd 0 xs : Nat)) from n1).kept (grownBy_putObj' W3.drew D (.deferred none)) (by simp; omega)).cell
    refine ⟨.tuple #[.slice A xs.length c, .int .i64 (lastEnd 0 xs : Nat)], ?_, .slice A xs.length c, ?_, ?_, ?_⟩
    · simp [results, Tryd.results48, go_sem, e1, e2]
    · rw [HA.out]
    · rw [HA.out, hb]
      exact ownsRow_putObj (W := W3) r2 _ hK2 rfl
    · rw [hb]
      exact b2.drew.grown (grownBy_putObj' W3.drew D (.deferred none)) (by have := b2.size; show b ≤ W3.heap.size; omega) (fun k e => by cases e; omega)

end Go.Proofs.YtoafebndlldclaaDoor

namespace Go.Proofs.YtoafebndlldclaaDoor.Wl
open Go Go.RowKit Go.Shelf Dk Sn
attribute [local go_sem] Oper.semAt_some

abbrev Sec := Nat × Bs
def encS (x : Sec) : Array Value := #[.int .i64 x.1, .string ⟨x.2.toArray⟩]
/-- an area, boxed -/
def Area (W : World) (B b fr to_ : Nat) : Prop := W.heap[B]? = some (.cells #[.pointer (some ⟨b, 0, none⟩), .int .i64 fr, .int .i64 to_] 83 (0, 0))
/-- what a body keeps -/
def KpS (B b g bm n : Nat) (W W' : World) : Prop := W'.heap[B]? = W.heap[B]? ∧ ∀ D, IsDisk W b g bm D → D.olds.length = n → ∃ D', IsDisk W' b g bm D' ∧ D'.olds.length = n
/-- what holds of a sector as it is handed on -/
def SeenS (b g bm fr : Nat) (pre : List Sec) (x : Sec) (W : World) : Prop := x.1 = fr + pre.length ∧ ∃ D, IsDisk W b g bm D ∧ read D x.1 = (x.2, 0)
def Rising (fr : Nat) (xs : List Sec) : Prop := ∀ (k : Nat) (x : Sec), xs[k]? = some x → x.1 = fr + k
def AllS (b g bm fr to_ : Nat) (xs : List Sec) (W : World) : Prop := Rising fr xs ∧ ∃ D, IsDisk W b g bm D ∧ (fr + xs.length = to_ ∨ (fr + xs.length < to_ ∧ (read D (fr + xs.length : Nat)).2 ≠ 0))

theorem Rising.snoc {fr : Nat} {xs : List Sec} (h : Rising fr xs) (s : Bs) : Rising fr (xs ++ [(fr + xs.length, s)]) := by
  intro k x hk
  rw [List.getElem?_append] at hk
  split at hk
  · exact h k x hk
  · rename_i hge
    have : k = xs.length := by
      have := (List.getElem?_eq_some_iff.1 hk).1
      simp at this
      omega
    subst this
    simp at hk
    rw [← hk]

set_option maxRecDepth 100000 in
set_option maxHeartbeats 2000000 in
theorem sectors_any (w : World) (b fr to_ : Nat) : Calls Tryd.prog 46 #[.agg #[.pointer (some ⟨b, 0, none⟩), .int .i64 fr, .int .i64 to_]] w fun e w' => e = .returned (.func (.func 63) #[] #[.pointer (some ⟨w.heap.size, 0, none⟩)]) ∧
    w' = w.alloc (.cells #[.pointer (some ⟨b, 0, none⟩), .int .i64 fr, .int .i64 to_] 83) := by
  go_enter Tryd.func46, Tryd.ntmps46
  go_wp2
  go_ret
  exact ⟨rfl, rfl⟩

set_option maxRecDepth 100000 in
set_option maxHeartbeats 4000000 in
theorem sectors1_in (n : Nat) (hn : 1 ≤ n) (l B b g bm fr to_ nd : Nat) (hft : fr ≤ to_) (hto : to_ ≤ 4096) (J Jx : List Sec → World → Prop) (W : World) (hJ : AbidesFrom W.heap.size J)
    (hY : ∀ pre x W1, J pre W1 → pre.length < to_ - fr → SeenS b g bm fr pre x W1 → YieldAt Fence.wide (n - 1) Tryd.prog l (encS x) W1 fun e W' =>
      (e = .returned (.bool true) ∧ J (pre ++ [x]) W' ∧ KpS B b g bm nd W1 W') ∨ (e = .returned (.bool false) ∧ Jx (pre ++ [x]) W'))
    (hB : Area W B b fr to_) (hD : ∃ D, IsDisk W b g bm D ∧ D.olds.length = nd) (h0 : J [] W) :
    CallsIn Fence.wide n Tryd.prog 63 #[.func (.yield l) #[] #[], .pointer (some ⟨B, 0, none⟩)] W fun e W' => (∃ v, e = .returned v) ∧
      ((∃ ys, AllS b g bm fr to_ ys W' ∧ J ys W') ∨ (∃ pre, Rising fr pre ∧ Jx pre W')) := by
  refine callsIn_of_wp Tryd.func63 rfl trivial ?_ rfl
  simp only [Tryd.ntmps63, List.size_toArray, List.length_cons, List.length_nil, Nat.reduceAdd, Nat.reduceSub, Array.replicate_succ, Array.replicate_zero, List.push_toArray, List.append_toArray, List.nil_append, List.cons_append]
  have a1 : W.cell? ⟨B, 1, none⟩ = some (.int .i64 fr) := cell_of_row W B 1 _ _ _ hB
  gi_wp2
  gi_loopw [3, 4, 5] (fun p _ _ wr => ∃ pre : List Sec, p = .int .i64 ((fr + pre.length : Nat) : Int) ∧ fr + pre.length ≤ to_ ∧ Rising fr pre ∧ Area wr B b fr to_ ∧ (∃ D, IsDisk wr b g bm D ∧ D.olds.length = nd) ∧ J pre wr)
    (fun p _ _ _ => to_ - (intOf p).toNat)
  case atStart => exact ⟨[], rfl, hft, by intro k x hk; simp at hk, hB, hD, h0⟩
  case round =>
    obtain ⟨pre, rfl, hle, hri, hb, ⟨D, hd, hdn⟩, hJs⟩ := hrel
    have c0 : wr.cell? ⟨B, 0, none⟩ = some (.pointer (some ⟨b, 0, none⟩)) := cell_of_row wr B 0 _ _ _ hb
    have c2 : wr.cell? ⟨B, 2, none⟩ = some (.int .i64 to_) := cell_of_row wr B 2 _ _ _ hb
    have hlB : B < wr.heap.size := (Array.getElem?_eq_some_iff.1 hb).1
    have HR := Lib.hid (read_any hd ((fr + pre.length : Nat) : Int))
    by_cases hlt : fr + pre.length < to_
    · have hlti : ((fr + pre.length : Nat) : Int) < (to_ : Int) := by omega
      obtain ⟨t, e, hte⟩ : ∃ t e, read D ((fr + pre.length : Nat) : Int) = (t, e) := ⟨_, _, rfl⟩
      rw [hte] at HR
      have HTE := Lib.hid hte
      have h64 : (((fr + pre.length : Nat) : Int)) < 4096 := by omega
      have hz : (0 : Int) ≤ ((fr + pre.length : Nat) : Int) := by omega
      generalize hiv : ((fr + pre.length : Nat) : Int) = iv at *
      have HIV := Lib.hid hiv
      clear hte hiv
      by_cases he : e = 0
      · subst he
        gi_wp2_with fail
        refine ⟨trivial, ?_⟩
        refine (callsIn_wide.2 HR.out).mono ?_
        rintro e1 w' ⟨rfl, hb1⟩
        have hJ' : J pre w' := hJ pre _ _ none hJs (below_grown hb1) (fun r e => by cases e)
        have hd' : IsDisk w' b g bm D := hd.below hb1
        have hb' : Area w' B b fr to_ := (hb1.block B hlB).trans hb
        obtain ⟨fn, tmps, assign, body, hy, hRn⟩ := hY pre (fr + pre.length, t) w' hJ' (by omega) ⟨rfl, D, hd', by rw [HIV.out]; exact HTE.out⟩
        unfold encS at hy
        dsimp only at hy
        rw [HIV.out] at hy
        gi_wp2
        refine hRn.mono ?_
        rintro e2 W3 (⟨rfl, hJ3, hk3⟩ | ⟨rfl, hJx3⟩)
        · obtain ⟨D3, hD3, hn3⟩ := hk3.2 D hd' hdn
          have hb3 : Area W3 B b fr to_ := hk3.1.trans hb'
          gi_wp2
          go_roundw
          case rel => exact ⟨pre ++ [(fr + pre.length, t)], by rw [List.length_append, ← HIV.out]; go_num, by rw [List.length_append]; show fr + (pre.length + 1) ≤ to_; omega, hri.snoc t, hb3, ⟨D3, hD3, hn3⟩, hJ3⟩
          case measure => have := HIV.out; simp [intOf]; omega
        · gi_wp2
          refine bodyPost_ret (results_none rfl _ _ _) rfl ?_
          exact ⟨⟨_, rfl⟩, .inr ⟨pre ++ [(fr + pre.length, t)], hri.snoc t, hJx3⟩⟩
      · have ht : (e != 0) = true := by rw [bne_iff_ne]; exact he
        have HE := Lib.hid he
        clear he
        gi_wp2_with fail
        refine ⟨trivial, ?_⟩
        refine (callsIn_wide.2 HR.out).mono ?_
        rintro e1 w' ⟨rfl, hb1⟩
        have hJ' : J pre w' := hJ pre _ _ none hJs (below_grown hb1) (fun r e => by cases e)
        have hd' : IsDisk w' b g bm D := hd.below hb1
        gi_wp2
        refine ⟨fun f hf => (by cases hf), ?_⟩
        gi_wp2
        refine bodyPost_ret (results_none rfl _ _ _) rfl ?_
        exact ⟨⟨_, rfl⟩, .inl ⟨pre, ⟨hri, D, hd', .inr ⟨by omega, by rw [HIV.out, HTE.out]; exact HE.out⟩⟩, hJ'⟩⟩
    · have hge : ¬ ((fr + pre.length : Nat) : Int) < (to_ : Int) := by omega
      gi_wp2
      go_end0
      exact ⟨⟨_, rfl⟩, .inl ⟨pre, ⟨hri, D, hd, .inl (by omega)⟩, hJs⟩⟩

theorem sectors_seen (n : Nat) (hn : 1 ≤ n) (B b g bm fr to_ nd : Nat) (hft : fr ≤ to_) (hto : to_ ≤ 4096) (w : World) (hB : Area w B b fr to_) (hD : ∃ D, IsDisk w b g bm D ∧ D.olds.length = nd) :
    SeqSeen Fence.wide n Tryd.prog 63 #[.pointer (some ⟨B, 0, none⟩)] encS (KpS B b g bm nd) (SeenS b g bm fr) (AllS b g bm fr to_) (fun pre _ => Rising fr pre) (to_ - fr) w := fun l J Jx W hW hJ _ hY h0 => by
  obtain ⟨D, hd, hn2⟩ := hD
  exact sectors1_in n hn l B b g bm fr to_ nd hft hto J Jx W hJ hY ((hW.block B (Array.getElem?_eq_some_iff.1 hB).1).trans hB) ⟨D, hd.below hW, hn2⟩ h0
end Go.Proofs.YtoafebndlldclaaDoor.Wl
