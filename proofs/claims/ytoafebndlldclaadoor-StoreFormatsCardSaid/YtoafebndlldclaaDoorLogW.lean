/- A log in memory; the calls of its Room and Len; guard.Put's call by the frame's definition. -/
import Derived.Test.YtoafebndlldclaaDoorOpenW
import Derived.Test.YtoafebndlldclaaDoorSe
import Derived.Test.YtoafebndlldclaaDoorDg
namespace Go.Proofs.YtoafebndlldclaaDoor.Wl
open Go Go.RowKit Go.Shelf Dk

variable {W W' w : World} {lb b g bm : Nat} {L : LS} {D : DS}
theorem IsLog.lt (h : IsLog W lb b L) : lb < W.heap.size := (Array.getElem?_eq_some_iff.1 h).1
theorem IsLog.cell (h : IsLog W lb b L) (j : Nat) : W.cell? ⟨lb, j, none⟩ = (#[.pointer (some ⟨b, 0, none⟩), .int .i64 L.fr, .int .i64 L.to_, .int .u64 L.ep, .int .u64 L.many, .int .i64 L.en, .string ⟨L.last.toArray⟩, .bool L.over] : Array Value)[j]? := cell_of_row W lb j _ _ _ h
theorem IsLog.free (h : IsLog W lb b L) (j : Nat) : W.frozen? ⟨lb, j, none⟩ = false := frozen_of_row W lb j _ _ h
theorem IsLog.kept {S : Nat → Prop} (h : IsLog W lb b L) (hk : Kp S W W') (hs : ¬ S lb) : IsLog W' lb b L := (hk.block lb h.lt hs).trans h
theorem IsLog.below {B : Nat} (h : IsLog W lb b L) (hk : Below B W W') (hB : lb < B) : IsLog W' lb b L := (hk.block lb hB).trans h
theorem IsLog.other (h : IsLog W lb b L) {p : Addr} (hp : lb ≠ p.block) (u : Value) : IsLog (W.setCell p u) lb b L := (Below.heap_setCell _ _ _ _ hp).trans h
theorem IsLog.setOver (h : IsLog W lb b L) (x : Bool) : IsLog (W.setCell ⟨lb, 7, none⟩ (.bool x)) lb b { L with over := x } := by
  have := heap_setCell_same W lb 7 _ _ (.bool x) h
  unfold IsLog
  simpa using this
theorem IsLog.setMany (h : IsLog W lb b L) (n : Nat) : IsLog (W.setCell ⟨lb, 4, none⟩ (.int .u64 n)) lb b { L with many := n } := by
  have := heap_setCell_same W lb 4 _ _ (.int .u64 n) h
  unfold IsLog
  simpa using this
theorem IsLog.setEn (h : IsLog W lb b L) (n : Nat) : IsLog (W.setCell ⟨lb, 5, none⟩ (.int .i64 n)) lb b { L with en := n } := by
  have := heap_setCell_same W lb 5 _ _ (.int .i64 n) h
  unfold IsLog
  simpa using this
theorem IsLog.setLast (h : IsLog W lb b L) (s : Bs) : IsLog (W.setCell ⟨lb, 6, none⟩ (.string ⟨s.toArray⟩)) lb b { L with last := s } := by
  have := heap_setCell_same W lb 6 _ _ (.string ⟨s.toArray⟩) h
  unfold IsLog
  simpa using this

/-- a log whose numbers fit the disk -/
structure Sane (n : Nat) (L : LS) : Prop where
  lt : L.fr < L.to_
  hi : L.to_ ≤ n
  n4 : n ≤ 4096
  en : L.en ≤ 64 * (L.to_ - L.fr)
  last : L.last.length = L.en % 64
  many : L.many ≤ 1000000
  ep : L.ep < 18446744073709551616
theorem Good.sane {recs : List Bs} (h : Good D L recs) : Sane D.olds.length L :=
  ⟨h.lt, h.hi, h.ok.hi, by rw [h.en]; exact h.fit, by rw [h.lastLen, h.en], by rw [h.many]; have := h.few; omega, h.ep⟩

def putR (q e : Nat) (t : Bs) : Bs × Int := if 8192 < t.length then ([], 71) else (Fr.putL q e t, 0)
theorem put_call (q e : Nat) (t : ByteArray) (w : World) (hq : q < 18446744073709551616) (he : e < 18446744073709551616) :
    Calls Tryd.prog 51 #[.agg #[.int .u64 q, .int .u64 e, .string t]] w fun e' w' => e' = .returned (.tuple #[.string ⟨(putR q e t.data.toList).1.toArray⟩, .int .i64 (putR q e t.data.toList).2]) ∧ Below w.heap.size w w' := by
  have hl : t.data.toList.length = t.size := by rw [Array.length_toList]; rfl
  unfold putR
  by_cases h : 8192 < t.size
  · rw [if_pos (by omega)]
    exact PAll.guard_Put.calls _ _ _ _ _ w (Pure.put_big q e t h)
  · rw [if_neg (by omega)]
    exact PAll.guard_Put.calls _ _ _ _ _ w (Pure.put_some q e t hq he (by omega))

set_option maxRecDepth 100000 in
set_option maxHeartbeats 1000000 in
theorem size_any (fr to_ : Nat) (hf : fr ≤ to_) (ht : to_ ≤ 4096) (w : World) : Calls Tryd.prog 54 #[.agg #[.pointer (some ⟨b, 0, none⟩), .int .i64 fr, .int .i64 to_]] w fun e w' => e = .returned (.int .i64 (((to_ : Int) - fr) * 64)) ∧ Below w.heap.size w w' := by
  have h0 : (0 : Int) ≤ (to_ : Int) - fr := by omega
  have h1 : (to_ : Int) - fr ≤ 4096 := by omega
  go_enter Tryd.func54, Tryd.ntmps54
  go_wp2
  go_ret
  exact ⟨rfl, (Below.refl _ _).alloc (Nat.le_refl _) _⟩

set_option maxRecDepth 100000 in
set_option maxHeartbeats 1000000 in
theorem len_log (h : IsLog w lb b L) (hm : L.many ≤ 1000000) : Calls Tryd.prog 17 #[.pointer (some ⟨lb, 0, none⟩)] w fun e w' => e = .returned (.int .i64 (L.many : Nat)) ∧ w = w' := by
  have c : w.cell? ⟨lb, 4, none⟩ = some (.int .u64 L.many) := h.cell 4
  clear h
  go_enter Tryd.func17, Tryd.ntmps17
  go_wp2
  go_ret
  exact ⟨rfl, rfl⟩

set_option maxRecDepth 100000 in
set_option maxHeartbeats 4000000 in
theorem room_any (h : IsLog w lb b L) (n : Nat) (hs : Sane n L) : Calls Tryd.prog 16 #[.pointer (some ⟨lb, 0, none⟩)] w fun e w' => e = .returned (.int .i64 L.room) ∧ Below w.heap.size w w' := by
  have c0 : w.cell? ⟨lb, 0, none⟩ = some (.pointer (some ⟨b, 0, none⟩)) := h.cell 0
  have c1 : w.cell? ⟨lb, 1, none⟩ = some (.int .i64 L.fr) := h.cell 1
  have c2 : w.cell? ⟨lb, 2, none⟩ = some (.int .i64 L.to_) := h.cell 2
  have c5 : w.cell? ⟨lb, 5, none⟩ = some (.int .i64 L.en) := h.cell 5
  have HL := Lib.hid h
  obtain ⟨h1, h2, h3, h4, _, _, _⟩ := hs
  have HZ := Lib.hid (fun w => size_any (b := b) L.fr L.to_ (by omega) (by omega) w)
  have k0 : (L.en : Int) ≤ ((L.to_ : Int) - L.fr) * 64 := by omega
  have k1 : ((L.to_ : Int) - L.fr) * 64 ≤ 262144 := by omega
  have k2 : (0 : Int) ≤ (L.en : Int) := by omega
  have kw : IntKind.i64.wrap (((L.to_ : Int) - L.fr) * 64 - L.en) = ((L.to_ : Int) - L.fr) * 64 - L.en := IntWalk.i64_in _ (by omega)
  unfold LS.room
  clear h
  go_enter Tryd.func16, Tryd.ntmps16
  go_wp2
  go_region_with (go_at_call 54; refine (HZ.out _).mono ?_; rintro e w' ⟨rfl, hb⟩; have c5' : w'.cell? ⟨lb, 5, none⟩ = some (.int .i64 L.en) := ((show IsLog w.drew lb b L from HL.out).below hb HL.out.lt).cell 5)
  all_goals go_wp2
  all_goals go_ret
  all_goals exact ⟨rfl, (Below.drew (Below.refl _ w)).trans hb⟩
end Go.Proofs.YtoafebndlldclaaDoor.Wl
