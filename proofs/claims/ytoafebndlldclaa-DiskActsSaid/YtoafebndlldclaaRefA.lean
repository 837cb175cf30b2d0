/- The document's own disk: what it is in memory, and what its small calls do, told by the one spec of both disks. -/
import Derived.Test.YtoafebndlldclaaDiskH
import Derived.OpenShut
import Derived.Maps.AppendAt
namespace Go.Proofs.Ytoafebndlldclaa.Dk
open Go Go.RowKit Go.ChangeMaps Go.MapKept

structure RB where
  b : Nat
  ob : Nat
  oc : Nat
  nb : Nat
  nc : Nat
  ib : Nat
  ic : Nat
def txt (s : Bs) : Value := .string ⟨s.toArray⟩

/-- in memory the document's disk is this one -/
structure IsRef (W : World) (B : RB) (D : DS) : Prop where
  ok : D.Ok
  blk : W.heap[B.b]? = some (.cells #[.slice (some ⟨B.ob, 0, none⟩) D.olds.length B.oc, .slice (some ⟨B.nb, 0, none⟩) D.olds.length B.nc, .slice (some ⟨B.ib, 0, none⟩) D.olds.length B.ic, .int .i64 D.fuse, .bool D.off] 50 (0, 0))
  old : ∃ cur, W.heap[B.ob]? = some (.cells cur 9 (0, 0)) ∧ ∀ (j : Nat) (s : Bs), D.olds[j]? = some s → cur[j]? = some (txt s)
  new : ∃ cur, W.heap[B.nb]? = some (.cells cur 9 (0, 0)) ∧ ∀ (j : Nat) (x : Option Bs), D.news[j]? = some x → ∃ s, cur[j]? = some (.string s) ∧ ∀ y, x = some y → s = ⟨y.toArray⟩
  is : ∃ cur, W.heap[B.ib]? = some (.cells cur 4 (0, 0)) ∧ ∀ (j : Nat) (x : Option Bs), D.news[j]? = some x → cur[j]? = some (.bool x.isSome)
  ne : B.ob ≠ B.nb

def FootR (B : RB) (k : Nat) : Prop := k = B.b ∨ k = B.ob ∨ k = B.nb ∨ k = B.ib

section
variable {W W' : World} {B : RB} {D : DS}
theorem IsRef.bo (h : IsRef W B D) : B.b ≠ B.ob := by
  intro e
  obtain ⟨cur, h1, _⟩ := h.old
  have h2 := h.blk
  rw [e, h1] at h2
  simp at h2
theorem IsRef.bn (h : IsRef W B D) : B.b ≠ B.nb := by
  intro e
  obtain ⟨cur, h1, _⟩ := h.new
  have h2 := h.blk
  rw [e, h1] at h2
  simp at h2
theorem IsRef.bi (h : IsRef W B D) : B.b ≠ B.ib := by
  intro e
  obtain ⟨cur, h1, _⟩ := h.is
  have h2 := h.blk
  rw [e, h1] at h2
  simp at h2
theorem IsRef.oi (h : IsRef W B D) : B.ob ≠ B.ib := by
  intro e
  obtain ⟨cur, h1, _⟩ := h.is
  obtain ⟨cur2, h2, _⟩ := h.old
  rw [e, h1] at h2
  simp at h2
theorem IsRef.ni (h : IsRef W B D) : B.nb ≠ B.ib := by
  intro e
  obtain ⟨cur, h1, _⟩ := h.is
  obtain ⟨cur2, h2, _⟩ := h.new
  rw [e, h1] at h2
  simp at h2
theorem IsRef.lt (h : IsRef W B D) {k : Nat} (hk : FootR B k) : k < W.heap.size := by
  rcases hk with rfl | rfl | rfl | rfl
  · exact (Array.getElem?_eq_some_iff.1 h.blk).1
  · obtain ⟨_, h1, _⟩ := h.old; exact (Array.getElem?_eq_some_iff.1 h1).1
  · obtain ⟨_, h1, _⟩ := h.new; exact (Array.getElem?_eq_some_iff.1 h1).1
  · obtain ⟨_, h1, _⟩ := h.is; exact (Array.getElem?_eq_some_iff.1 h1).1
theorem IsRef.same (h : IsRef W B D) (hk : ∀ k, FootR B k → W'.heap[k]? = W.heap[k]?) : IsRef W' B D := by
  obtain ⟨c1, o1, o2⟩ := h.old
  obtain ⟨c2, n1, n2⟩ := h.new
  obtain ⟨c3, i1, i2⟩ := h.is
  exact ⟨h.ok, (hk _ (.inl rfl)).trans h.blk, ⟨c1, (hk _ (.inr (.inl rfl))).trans o1, o2⟩, ⟨c2, (hk _ (.inr (.inr (.inl rfl)))).trans n1, n2⟩, ⟨c3, (hk _ (.inr (.inr (.inr rfl)))).trans i1, i2⟩, h.ne⟩
theorem IsRef.kept {S : Nat → Prop} (h : IsRef W B D) (k : Kp S W W') (hS : ∀ k, FootR B k → ¬ S k) : IsRef W' B D := h.same fun j hj => k.block j (h.lt hj) (hS j hj)
theorem IsRef.below (h : IsRef W B D) (k : Below W.heap.size W W') : IsRef W' B D := h.same fun j hj => k.block j (h.lt hj)
theorem IsRef.alloc (h : IsRef W B D) (o : Obj) : IsRef (W.alloc o) B D := h.below ((Below.refl _ _).alloc (Nat.le_refl _) o)
theorem IsRef.drew (h : IsRef W B D) : IsRef W.drew B D := h.same fun _ _ => rfl
theorem IsRef.drewN (h : IsRef W B D) (n : Nat) : IsRef (W.drewN n) B D := h.same fun _ _ => rfl

theorem IsRef.cell (h : IsRef W B D) (j : Nat) : W.cell? ⟨B.b, j, none⟩ = (#[.slice (some ⟨B.ob, 0, none⟩) D.olds.length B.oc, .slice (some ⟨B.nb, 0, none⟩) D.olds.length B.nc, .slice (some ⟨B.ib, 0, none⟩) D.olds.length B.ic, .int .i64 D.fuse, .bool D.off] : Array Value)[j]? := cell_of_row W B.b j _ _ _ h.blk
theorem IsRef.c0 (h : IsRef W B D) : W.cell? ⟨B.b, 0, none⟩ = some (.slice (some ⟨B.ob, 0, none⟩) D.olds.length B.oc) := h.cell 0
theorem IsRef.c1 (h : IsRef W B D) : W.cell? ⟨B.b, 1, none⟩ = some (.slice (some ⟨B.nb, 0, none⟩) D.olds.length B.nc) := h.cell 1
theorem IsRef.c2 (h : IsRef W B D) : W.cell? ⟨B.b, 2, none⟩ = some (.slice (some ⟨B.ib, 0, none⟩) D.olds.length B.ic) := h.cell 2
theorem IsRef.c3 (h : IsRef W B D) : W.cell? ⟨B.b, 3, none⟩ = some (.int .i64 D.fuse) := h.cell 3
theorem IsRef.c4 (h : IsRef W B D) : W.cell? ⟨B.b, 4, none⟩ = some (.bool D.off) := h.cell 4
theorem IsRef.free (h : IsRef W B D) (j : Nat) : W.frozen? ⟨B.b, j, none⟩ = false := frozen_of_row W B.b j _ _ h.blk
theorem IsRef.oc (h : IsRef W B D) {j : Nat} {s : Bs} (hj : D.olds[j]? = some s) : W.cell? ⟨B.ob, j, none⟩ = some (txt s) := by
  obtain ⟨cur, h1, h2⟩ := h.old
  rw [cell_of_row W B.ob j _ _ _ h1]; exact h2 j s hj
theorem IsRef.ic (h : IsRef W B D) {j : Nat} {x : Option Bs} (hj : D.news[j]? = some x) : W.cell? ⟨B.ib, j, none⟩ = some (.bool x.isSome) := by
  obtain ⟨cur, h1, h2⟩ := h.is
  rw [cell_of_row W B.ib j _ _ _ h1]; exact h2 j x hj
theorem IsRef.nc (h : IsRef W B D) {j : Nat} {x : Option Bs} (hj : D.news[j]? = some x) : ∃ s, W.cell? ⟨B.nb, j, none⟩ = some (.string s) ∧ ∀ y, x = some y → s = ⟨y.toArray⟩ := by
  obtain ⟨cur, h1, h2⟩ := h.new
  rw [cell_of_row W B.nb j _ _ _ h1]; exact h2 j x hj
theorem IsRef.fo (h : IsRef W B D) (j : Nat) : W.frozen? ⟨B.ob, j, none⟩ = false := by obtain ⟨cur, h1, _⟩ := h.old; exact frozen_of_row W B.ob j _ _ h1
theorem IsRef.fn (h : IsRef W B D) (j : Nat) : W.frozen? ⟨B.nb, j, none⟩ = false := by obtain ⟨cur, h1, _⟩ := h.new; exact frozen_of_row W B.nb j _ _ h1
theorem IsRef.fi (h : IsRef W B D) (j : Nat) : W.frozen? ⟨B.ib, j, none⟩ = false := by obtain ⟨cur, h1, _⟩ := h.is; exact frozen_of_row W B.ib j _ _ h1

theorem IsRef.setB {v : Value} (h : IsRef W B D) (j : Nat) {D' : DS} (ho : D'.olds = D.olds) (hn : D'.news = D.news) (hk : D'.Ok)
    (hc : (#[.slice (some ⟨B.ob, 0, none⟩) D.olds.length B.oc, .slice (some ⟨B.nb, 0, none⟩) D.olds.length B.nc, .slice (some ⟨B.ib, 0, none⟩) D.olds.length B.ic, .int .i64 D.fuse, .bool D.off] : Array Value).set! j v = #[.slice (some ⟨B.ob, 0, none⟩) D.olds.length B.oc, .slice (some ⟨B.nb, 0, none⟩) D.olds.length B.nc, .slice (some ⟨B.ib, 0, none⟩) D.olds.length B.ic, .int .i64 D'.fuse, .bool D'.off]) :
    IsRef (W.setCell ⟨B.b, j, none⟩ v) B D' := by
  obtain ⟨c1, o1, o2⟩ := h.old
  obtain ⟨c2, n1, n2⟩ := h.new
  obtain ⟨c3, i1, i2⟩ := h.is
  refine ⟨hk, ?_, ⟨c1, (Below.heap_setCell _ _ _ _ h.bo.symm).trans o1, by rw [ho]; exact o2⟩, ⟨c2, (Below.heap_setCell _ _ _ _ h.bn.symm).trans n1, by rw [hn]; exact n2⟩, ⟨c3, (Below.heap_setCell _ _ _ _ h.bi.symm).trans i1, by rw [hn]; exact i2⟩, h.ne⟩
  have := heap_setCell_same W B.b j _ _ v h.blk
  rw [ho, ← hc]
  exact this
theorem IsRef.setFuse (h : IsRef W B D) (f : Nat) (hf : f ≤ 9223372036854775807) : IsRef (W.setCell ⟨B.b, 3, none⟩ (.int .i64 f)) B { D with fuse := f } := h.setB 3 rfl rfl (Ok.fuse' h.ok hf D.off) (by rfl)
theorem IsRef.setOff (h : IsRef W B D) (x : Bool) : IsRef (W.setCell ⟨B.b, 4, none⟩ (.bool x)) B { D with off := x } := h.setB 4 rfl rfl (Ok.fuse' h.ok h.ok.fuse x) (by rfl)
theorem IsRef.setOld (h : IsRef W B D) (i : Nat) {s : Bs} (hs : s.length = 64) : IsRef (W.setCell ⟨B.ob, i, none⟩ (txt s)) B { D with olds := D.olds.set i s } := by
  obtain ⟨c1, o1, o2⟩ := h.old
  obtain ⟨c2, n1, n2⟩ := h.new
  obtain ⟨c3, i1, i2⟩ := h.is
  refine ⟨⟨by simp [h.ok.len], by simp [h.ok.lo], by simp [h.ok.hi], ?_, h.ok.new, h.ok.fuse⟩, ?_, ⟨_, heap_setCell_same W B.ob i _ _ _ o1, fun j x hj => ?_⟩, ⟨c2, (Below.heap_setCell _ _ _ _ h.ne.symm).trans n1, n2⟩, ⟨c3, (Below.heap_setCell _ _ _ _ h.oi.symm).trans i1, i2⟩, h.ne⟩
  · intro x hx
    rcases List.mem_or_eq_of_mem_set hx with hx | hx
    · exact h.ok.old x hx
    · rw [hx]; exact hs
  · rw [Below.heap_setCell _ _ _ _ h.bo, List.length_set]; exact h.blk
  · rw [List.getElem?_set] at hj
    rw [Array.getElem?_setIfInBounds]
    by_cases e : i = j
    · subst e
      rw [if_pos rfl] at hj ⊢
      split at hj
      · rename_i hlt
        cases hj
        have := o2 i D.olds[i] (List.getElem?_eq_getElem hlt)
        rw [if_pos (Array.getElem?_eq_some_iff.1 this).1]
      · cases hj
    · rw [if_neg e] at hj ⊢
      exact o2 j x hj
theorem IsRef.setNew (h : IsRef W B D) (i : Nat) {s : Bs} (hs : s.length = 64) : IsRef ((W.setCell ⟨B.nb, i, none⟩ (txt s)).setCell ⟨B.ib, i, none⟩ (.bool true)) B { D with news := D.news.set i (some s) } := by
  obtain ⟨c1, o1, o2⟩ := h.old
  obtain ⟨c2, n1, n2⟩ := h.new
  obtain ⟨c3, i1, i2⟩ := h.is
  refine ⟨h.ok.put i hs, ?_, ⟨c1, (Below.heap_setCell _ _ _ _ h.oi).trans ((Below.heap_setCell _ _ _ _ h.ne).trans o1), o2⟩,
    ⟨_, (Below.heap_setCell _ _ _ _ h.ni).trans (heap_setCell_same W B.nb i _ _ _ n1), fun j x hj => ?_⟩,
    ⟨_, heap_setCell_same _ B.ib i _ _ _ ((Below.heap_setCell _ _ _ _ h.ni.symm).trans i1), fun j x hj => ?_⟩, h.ne⟩
  · rw [Below.heap_setCell _ _ _ _ h.bi, Below.heap_setCell _ _ _ _ h.bn]; exact h.blk
  · rw [List.getElem?_set] at hj
    rw [Array.getElem?_setIfInBounds]
    by_cases e : i = j
    · subst e
      rw [if_pos rfl] at hj ⊢
      split at hj
      · rename_i hlt
        cases hj
        obtain ⟨s', k1, _⟩ := n2 i D.news[i] (List.getElem?_eq_getElem hlt)
        rw [if_pos (Array.getElem?_eq_some_iff.1 k1).1]
        exact ⟨_, rfl, fun y hy => by cases hy; rfl⟩
      · cases hj
    · rw [if_neg e] at hj ⊢
      exact n2 j x hj
  · rw [List.getElem?_set] at hj
    rw [Array.getElem?_setIfInBounds]
    by_cases e : i = j
    · subst e
      rw [if_pos rfl] at hj ⊢
      split at hj
      · rename_i hlt
        cases hj
        have k1 := i2 i D.news[i] (List.getElem?_eq_getElem hlt)
        rw [if_pos (Array.getElem?_eq_some_iff.1 k1).1]
        rfl
      · cases hj
    · rw [if_neg e] at hj ⊢
      exact i2 j x hj
theorem IsRef.setNone (h : IsRef W B D) (i : Nat) : IsRef (W.setCell ⟨B.ib, i, none⟩ (.bool false)) B { D with news := D.news.set i none } := by
  obtain ⟨c1, o1, o2⟩ := h.old
  obtain ⟨c2, n1, n2⟩ := h.new
  obtain ⟨c3, i1, i2⟩ := h.is
  refine ⟨⟨by simp [h.ok.len], h.ok.lo, h.ok.hi, h.ok.old, ?_, h.ok.fuse⟩, (Below.heap_setCell _ _ _ _ h.bi).trans h.blk, ⟨c1, (Below.heap_setCell _ _ _ _ h.oi).trans o1, o2⟩,
    ⟨c2, (Below.heap_setCell _ _ _ _ h.ni).trans n1, fun j x hj => ?_⟩,
    ⟨_, heap_setCell_same _ B.ib i _ _ _ i1, fun j x hj => ?_⟩, h.ne⟩
  · intro s hs
    rcases List.mem_or_eq_of_mem_set hs with hs | hs
    · exact h.ok.new s hs
    · cases hs
  · rw [List.getElem?_set] at hj
    by_cases e : i = j
    · subst e
      rw [if_pos rfl] at hj
      split at hj
      · rename_i hlt
        cases hj
        obtain ⟨s', k1, _⟩ := n2 i D.news[i] (List.getElem?_eq_getElem hlt)
        exact ⟨s', k1, fun y hy => by cases hy⟩
      · cases hj
    · rw [if_neg e] at hj
      exact n2 j x hj
  · rw [List.getElem?_set] at hj
    rw [Array.getElem?_setIfInBounds]
    by_cases e : i = j
    · subst e
      rw [if_pos rfl] at hj ⊢
      split at hj
      · rename_i hlt
        cases hj
        have k1 := i2 i D.news[i] (List.getElem?_eq_getElem hlt)
        rw [if_pos (Array.getElem?_eq_some_iff.1 k1).1]
        rfl
      · cases hj
    · rw [if_neg e] at hj ⊢
      exact i2 j x hj

set_option maxRecDepth 100000 in
set_option maxHeartbeats 1000000 in
theorem rzeros_any (n : Nat) (hn : n ≤ 281474976710656) (W : World) : Calls Try.prog 33 #[.int .i64 n] W fun e w' => e = .returned (.string ⟨(zeros n).toArray⟩) ∧ Below W.heap.size W w' := by
  go_enter Try.func33, Try.ntmps33
  obtain ⟨zz, hzz, hzs⟩ := zeros_text n
  go_wp2_with (first
    | (refine wpList_make_bytes rfl _ _ 30 5 rfl Try.underlying30 u8_info n _ rfl rfl rfl hn ?_)
    | (refine wpList_conv_new rfl 30 9 5 _ rfl Try.underlying30 Try.underlying5 Try.underlying9 W (zeros n) 5 rfl _ _ _ rfl (zeros_length _).symm rfl zz hzz ?_))
  go_ret
  exact ⟨rfl, (Below.refl _ _).alloc (Nat.le_refl _) _⟩

set_option maxRecDepth 100000 in
set_option maxHeartbeats 1000000 in
theorem rcut_any (h : IsRef W B D) : Calls Try.prog 24 #[.pointer (some ⟨B.b, 0, none⟩)] W fun e w' => e = .returned (.tuple #[]) ∧ IsRef w' B (cut D) ∧ Kp (FootR B) W w' := by
  have c4 := h.c4
  have f4 := h.free 4
  go_enter Try.func24, Try.ntmps24
  go_wp2
  go_end0
  exact ⟨rfl, h.setOff true, (Kp.refl _ _).setCell (.inl rfl) _⟩

set_option maxRecDepth 100000 in
set_option maxHeartbeats 1000000 in
theorem rfuse_any (h : IsRef W B D) (n : Int) (hn : n ≤ 9223372036854775807) : Calls Try.prog 23 #[.pointer (some ⟨B.b, 0, none⟩), .int .i64 n] W fun e w' => e = .returned (.tuple #[]) ∧ IsRef w' B (setFuse D n) ∧ Kp (FootR B) W w' := by
  have c3 := h.c3
  have f3 := h.free 3
  have hs := h.setFuse n.toNat (by omega)
  have hk := (Kp.refl (FootR B) W).setCell (p := ⟨B.b, 3, none⟩) (.inl rfl) (.int .i64 (n.toNat : Nat))
  rw [show ((n.toNat : Nat) : Int) = max n 0 from by omega] at hs hk
  go_enter Try.func23, Try.ntmps23
  go_wp2
  go_end0
  exact ⟨rfl, hs, hk⟩
end
end Go.Proofs.Ytoafebndlldclaa.Dk
