/- Laws for the statements' walks: a row of zero bytes made and turned into a text; a disk without a fuse. -/
import Derived.Test.YtoafebndlldclaaDiskG
import Derived.BigQuiet
namespace Go.Proofs.Ytoafebndlldclaa.Dk
open Go Go.RowKit Go.ChangeMaps Go.MapKept

theorem made_bytes (n : Nat) : madeCells (Value.int .u8 0).cells (n * 1) = (Lib.byteCells (zeros n)).toArray := by
  apply Array.ext_getElem?
  intro j
  by_cases hj : j < n
  · rw [show (Lib.byteCells (zeros n)).toArray[j]? = some (.int .u8 0) from by rw [List.getElem?_toArray, zeros_cells _ _ hj]]
    unfold madeCells
    rw [Array.getElem?_map, Array.getElem?_range, if_pos (by omega)]
    simp [Value.cells, Nat.mod_one]
  · rw [Array.getElem?_eq_none (by simp [size_madeCells]; omega), Array.getElem?_eq_none (by simp [Lib.byteCells, zeros]; omega)]

section
variable {P : Program} {w : World} {ops : Array Oper} {rest : List Oper} {o : Oper} {a : Act} {Q : Exit → Act → World → Prop}
/-- 'make([]byte, n)' -/
theorem wpList_make_bytes (hg : o.guard = none) (l c : Operand) (t e : TypeId) (hop : o.op = Op.makeSlice t l c) (ht : P.underlying t = some (.slice e)) (hi : (P.info? e).map (fun i => (i.zero, i.size, i.bytes)) = some (some (.int .u8 0), 1, 1))
    (n : Nat) (x : Int) (hx : x = n) (hl : a.eval l = .int .i64 x) (hc : a.eval c = .int .i64 x) (hn : n ≤ 281474976710656)
    (h : wpList P ops Q rest (a.put o.dst (.slice (some ⟨w.heap.size, 0, none⟩) n n)) (w.alloc (.cells (Lib.byteCells (zeros n)).toArray e))) : wpList P ops Q (o :: rest) a w := by
  subst hx
  refine wpList_make_exact hg l c t e hop (.int .u8 0) 1 1 ht hi n hl hc (by omega) (by omega) ?_
  rw [made_bytes]
  exact h

/-- 'string(b)', b a row of the call's own that was laid last -/
theorem wpList_conv_new (hg : o.guard = none) (src dst e : TypeId) (x : Operand) (hop : o.op = Op.convert src dst x) (hs : P.underlying src = some (.slice e)) (he : P.underlying e = some (.int .u8)) (hd : P.underlying dst = some .string)
    (v : World) (l : Bs) (t : TypeId) (hw : w = v.alloc (.cells (Lib.byteCells l).toArray t)) (n m cap : Nat) (hn : n = v.heap.size) (hm : m = l.length) (hx : a.eval x = .slice (some ⟨n, 0, none⟩) m cap) (z : ByteArray) (hz : z = ⟨l.toArray⟩)
    (h : wpList P ops Q rest (a.put o.dst (.string z)) w) : wpList P ops Q (o :: rest) a w := by
  subst hn hm hz
  refine wpList_plain hg fun K hK => ?_
  have hrun : (convert src dst (.slice (some ⟨v.heap.size, 0, none⟩) l.length cap)).run P w = .ok (.string ⟨l.toArray⟩) w := by
    refine run_convert_bytes_back _ src dst e ⟨v.heap.size, 0, none⟩ cap l hs he hd (fun j hj => ?_)
    rw [show (⟨v.heap.size, 0, none⟩ : Addr).add j = ⟨v.heap.size, j, none⟩ from by unfold Addr.add; split <;> simp_all, hw, World.cell?_alloc_at _ _ _ _ rfl, List.getElem?_toArray]
    simp [Lib.byteCells, List.getElem?_eq_getElem hj]
  unfold Oper.wp
  simp [execOp, hop, hx, hrun, Result.andThen]
  exact hK _ _ h
end

theorem zeros_text (n : Nat) : ∃ z : ByteArray, z = ⟨(zeros n).toArray⟩ ∧ z.size = n := ⟨_, rfl, by simp [ByteArray.size, zeros]⟩

theorem u8_info : (Try.prog.info? 5).map (fun i => (i.zero, i.size, i.bytes)) = some (some (.int .u8 0), 1, 1) := by kernel_rfl

theorem write_free {olds : List Bs} {news : List (Option Bs)} {i : Nat} {s : Bs} (hi : i < olds.length) (hs : s.length ≤ 64) : write ⟨olds, news, 0, false⟩ i s = (⟨olds, news.set i (some (pad s)), 0, false⟩, 0) := by
  unfold write
  rw [within_some rfl (by omega) (by show (i : Int) < (olds.length : Int); omega)]
  rw [if_neg (by decide), if_neg (by omega)]
  simp [burn, put]
theorem write_dead {olds : List Bs} {news : List (Option Bs)} {f : Nat} (i : Int) (s : Bs) : write ⟨olds, news, f, true⟩ i s = (⟨olds, news, f, true⟩, 180) := by
  unfold write
  rw [within_off rfl]
  rfl
theorem sync_free {olds : List Bs} {news : List (Option Bs)} : sync ⟨olds, news, 0, false⟩ = (settle ⟨olds, news, 0, false⟩, 0) := by
  simp [sync, burn]
theorem sync_dead {olds : List Bs} {news : List (Option Bs)} {f : Nat} : sync ⟨olds, news, f, true⟩ = (⟨olds, news, f, true⟩, 180) := by
  simp [sync]
end Go.Proofs.Ytoafebndlldclaa.Dk
