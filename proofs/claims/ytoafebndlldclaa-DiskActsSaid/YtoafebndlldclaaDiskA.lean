/- The calls of the disk's small functions are proved: within, Up, Len, Cut, Fuse, New. -/
import Derived.Test.YtoafebndlldclaaDiskM
import Derived.WalkKit
import Derived.OwnWalk
import Derived.RegionTactic
import Derived.Carry
namespace Go.Proofs.Ytoafebndlldclaa.Dk
open Go Go.RowKit

section
variable {W : World} {b g bm : Nat} {D : DS}

set_option maxRecDepth 100000 in
set_option maxHeartbeats 1000000 in
theorem up_any (h : IsDisk W b g bm D) : Calls Try.prog 17 #[.pointer (some ⟨b, 0, none⟩)] W fun e w' => e = .returned (.bool (!D.off)) ∧ W = w' := by
  have c3 := h.c3
  have hnot : ∀ (x : Bool) (w : World), (Op.unary .not (.bool x)).run Try.prog w = .ok (.bool (!x)) w := fun _ _ => rfl
  go_enter Try.func17, Try.ntmps17
  go_wp2
  go_ret
  exact ⟨rfl, rfl⟩

set_option maxRecDepth 100000 in
set_option maxHeartbeats 1000000 in
theorem len_any (h : IsDisk W b g bm D) : Calls Try.prog 19 #[.pointer (some ⟨b, 0, none⟩)] W fun e w' => e = .returned (.int .i64 (D.olds.length : Nat)) ∧ W = w' := by
  have c0 := h.c0
  go_enter Try.func19, Try.ntmps19
  go_wp2
  go_ret
  exact ⟨rfl, rfl⟩

set_option maxRecDepth 100000 in
set_option maxHeartbeats 1000000 in
theorem cut_any (h : IsDisk W b g bm D) : Calls Try.prog 12 #[.pointer (some ⟨b, 0, none⟩)] W fun e w' => e = .returned (.tuple #[]) ∧ IsDisk w' b g bm (cut D) ∧ Kp (Foot b g bm) W w' := by
  have c3 := h.c3
  have f3 := h.free 3
  go_enter Try.func12, Try.ntmps12
  go_wp2
  go_end0
  exact ⟨rfl, h.setOff true, (Kp.refl _ _).setCell (.inl rfl) _⟩

set_option maxRecDepth 100000 in
set_option maxHeartbeats 1000000 in
theorem fuse_any (h : IsDisk W b g bm D) (n : Int) (hn : n ≤ 9223372036854775807) : Calls Try.prog 16 #[.pointer (some ⟨b, 0, none⟩), .int .i64 n] W fun e w' => e = .returned (.tuple #[]) ∧ IsDisk w' b g bm (setFuse D n) ∧ Kp (Foot b g bm) W w' := by
  have c2 := h.c2
  have f2 := h.free 2
  have hs := h.setFuse n.toNat (by omega)
  have hk := (Kp.refl (Foot b g bm) W).setCell (p := ⟨b, 2, none⟩) (.inl rfl) (.int .i64 (n.toNat : Nat))
  have e : ((n.toNat : Nat) : Int) = if 0 > n then 0 else n := by split <;> omega
  rw [e] at hs hk
  have HS := Lib.hid hs
  have HK := Lib.hid hk
  clear hs hk e
  by_cases h0 : 0 > n
  all_goals
    go_enter Try.func16, Try.ntmps16
    go_wp2
    go_end0
    first
      | (have a := HS.out; have b := HK.out; rw [if_pos h0] at a b; exact ⟨rfl, a, b⟩)
      | (have a := HS.out; have b := HK.out; rw [if_neg (by omega)] at a b; exact ⟨rfl, a, b⟩)

set_option maxRecDepth 100000 in
set_option maxHeartbeats 1000000 in
theorem within_any (h : IsDisk W b g bm D) (i : Int) : Calls Try.prog 30 #[.pointer (some ⟨b, 0, none⟩), .int .i64 i] W fun e w' => e = .returned (.int .i64 (within D i)) ∧ W = w' := by
  have c0 := h.c0
  have c3 := h.c3
  cases ho : D.off with
  | true =>
    rw [ho] at c3
    have HW := Lib.hid (within_off (i := i) ho)
    clear ho
    go_enter Try.func30, Try.ntmps30
    go_wp2
    go_ret
    exact ⟨by rw [HW.out]; rfl, rfl⟩
  | false =>
    rw [ho] at c3
    by_cases h1 : i < 0
    · have HW := Lib.hid (within_out (i := i) ho (.inl h1))
      clear ho
      go_enter Try.func30, Try.ntmps30
      go_wp2
      go_ret
      exact ⟨by rw [HW.out]; rfl, rfl⟩
    · by_cases h2 : (D.olds.length : Int) ≤ i
      · have HW := Lib.hid (within_out (i := i) ho (.inr h2))
        clear ho
        go_enter Try.func30, Try.ntmps30
        go_wp2
        go_ret
        exact ⟨by rw [HW.out]; rfl, rfl⟩
      · have HW := Lib.hid (within_some (i := i) ho (by omega) (by omega))
        clear ho
        go_enter Try.func30, Try.ntmps30
        go_wp2
        go_ret
        exact ⟨by rw [HW.out]; rfl, rfl⟩
end

theorem new_none (n : Int) (h : n < 1 ∨ 4096 < n) (W : World) : Calls Try.prog 9 #[.int .i64 n] W fun e w' => e = .returned (.pointer none) ∧ W = w' := by
  by_cases h1 : n < 1
  · go_enter Try.func9, Try.ntmps9
    go_wp2
    go_ret
    exact ⟨rfl, rfl⟩
  · have h2 : 4096 < n := by omega
    go_enter Try.func9, Try.ntmps9
    go_wp2
    go_ret
    exact ⟨rfl, rfl⟩

theorem wpList_make_exact {P : Program} {w : World} {ops : Array Oper} {rest : List Oper} {o : Oper} {a : Act} {Q : Exit → Act → World → Prop} (hg : o.guard = none) (l c : Operand) (t e : TypeId) (hop : o.op = Op.makeSlice t l c) (z : Value) (sz by_ : Nat)
    (ht : P.underlying t = some (.slice e)) (hi : (P.info? e).map (fun i => (i.zero, i.size, i.bytes)) = some (some z, sz, by_)) (n : Nat) (hl : a.eval l = .int .i64 n) (hc : a.eval c = .int .i64 n) (hb : by_ * n ≤ 281474976710656) (hn : n ≤ 9223372036854775807)
    (h : wpList P ops Q rest (a.put o.dst (.slice (some ⟨w.heap.size, 0, none⟩) n n)) (w.alloc (.cells (madeCells z.cells (n * sz)) e))) : wpList P ops Q (o :: rest) a w := by
  refine wpList_plain hg fun K hK => ?_
  cases hq : P.info? e with
  | none => simp [hq] at hi
  | some i =>
    simp only [hq, Option.map_some, Option.some.injEq, Prod.mk.injEq] at hi
    obtain ⟨h1, rfl, rfl⟩ := hi
    have hrun := run_make (P := P) w t e i z ht hq h1 .i64 .i64 n n (by omega) (Int.le_refl _) (by rw [← Int.natCast_mul]; omega) (by omega)
    simp only [Int.toNat_natCast] at hrun
    unfold Oper.wp
    simp [execOp, hop, hl, hc, hrun, Result.andThen]
    exact hK _ _ h

theorem zeros_cells (n j : Nat) (h : j < n) : (Lib.byteCells (zeros n))[j]? = some (.int .u8 0) := by
  simp [Lib.byteCells, zeros, h]
theorem flat_zeros (n : Nat) : (List.replicate n (zeros 64)).flatten = zeros (n * 64) := by
  induction n with
  | zero => rfl
  | succ n ih => rw [List.replicate_succ, List.flatten_cons, ih, zeros, zeros, zeros, List.replicate_append_replicate]; congr 1; omega
theorem made_zeros (n : Nat) : madeCells (Lib.byteCells (zeros 64)).toArray (n * 64) = (Lib.byteCells (List.replicate n (zeros 64)).flatten).toArray := by
  rw [flat_zeros]
  apply Array.ext_getElem?
  intro j
  by_cases hj : j < n * 64
  · rw [show (Lib.byteCells (zeros (n * 64))).toArray[j]? = some (.int .u8 0) from by rw [List.getElem?_toArray, zeros_cells _ _ hj]]
    have h2 : (Lib.byteCells (zeros 64)).toArray[j % 64]? = some (.int .u8 0) := by rw [List.getElem?_toArray, zeros_cells _ _ (by omega)]
    have h3 : (Lib.byteCells (zeros 64)).toArray.size = 64 := by simp [Lib.byteCells, zeros]
    unfold madeCells
    rw [Array.getElem?_map, Array.getElem?_range, if_pos hj]
    simp only [Option.map_some, h3]
    rw [Array.getElem!_eq_getD, Array.getD_eq_getD_getElem?, h2]; rfl
  · rw [Array.getElem?_eq_none (by simp [size_madeCells]; omega), Array.getElem?_eq_none (by simp [Lib.byteCells, zeros]; omega)]

theorem info_sector : (Try.prog.info? 58).map (fun i => (i.zero, i.size, i.bytes)) = some (some (.agg (Lib.byteCells (zeros 64)).toArray), 64, 64) := by kernel_rfl

set_option maxRecDepth 100000 in
set_option maxHeartbeats 1000000 in
theorem new_some (n : Nat) (h1 : 1 ≤ n) (h2 : n ≤ 4096) (W : World) : Calls Try.prog 9 #[.int .i64 n] W fun e w' => e = .returned (.pointer (some ⟨W.heap.size + 2, 0, none⟩)) ∧
    IsDisk w' (W.heap.size + 2) W.heap.size (W.heap.size + 1) (new n) ∧ Below W.heap.size W w' := by
  have hmm := @run_makeMap Try.prog
  go_enter Try.func9, Try.ntmps9
  go_wp2_with (at_make; refine wpList_make_exact rfl _ _ 53 58 rfl (.agg (Lib.byteCells (zeros 64)).toArray) 64 64 Try.underlying53 info_sector n rfl rfl ?_ ?_ ?_)
  all_goals first | omega | skip
  rw [made_zeros]
  go_ret
  generalize hO : (Obj.cells (Lib.byteCells (List.replicate n (zeros 64)).flatten).toArray 58) = O1
  have s1 : (W.alloc O1).heap.size = W.heap.size + 1 := by simp
  have s2 : ((W.alloc O1).alloc (.map #[] 0)).heap.size = W.heap.size + 2 := by simp
  have el : (new n).olds.length = n := by simp [new]
  refine ⟨rfl, ⟨new_ok h1 h2, ?_, ?_, ?_⟩, (((Below.refl _ W).alloc (Nat.le_refl _) _).alloc (by simp) _).alloc (by simp; omega) _⟩
  · have := heap_alloc_new ((W.alloc O1).alloc (.map #[] 0)) (Obj.cells #[Value.slice (some { block := W.heap.size, off := 0 }) n n, Value.map (some (W.heap.size + 1)), Value.int IntKind.i64 0, Value.bool false] 56)
    rw [s2] at this
    rw [this, el]; rfl
  · rw [Below.heap_alloc _ _ _ (by omega), Below.heap_alloc _ _ _ (by omega), Go.heap_alloc_new, ← hO]; rfl
  · have := ((World.ownsMap_made (W.alloc O1) Try.prog 3 secElem).alloc (Obj.cells #[Value.slice (some { block := W.heap.size, off := 0 }) n n, Value.map (some (W.heap.size + 1)), Value.int IntKind.i64 0, Value.bool false] 56))
    rw [s1] at this
    have hd : datum (new n).news = .map [] := by
      have := datum_none (new n).news
      rwa [show (new n).news.map (fun _ => none) = (new n).news from by simp [new]] at this
    rw [hd]
    exact this
end Go.Proofs.Ytoafebndlldclaa.Dk
