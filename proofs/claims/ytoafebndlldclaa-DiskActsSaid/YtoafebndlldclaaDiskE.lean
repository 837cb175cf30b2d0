/- The call of the disk's Dirty is proved, over the library's sort. -/
import Derived.Test.YtoafebndlldclaaDiskD
import Derived.Sort.OwnSorted
import Derived.Maps.AppendAt
namespace Go.Proofs.Ytoafebndlldclaa.Dk
open Go Go.RowKit Go.ChangeMaps Go.MapKept Go.Sort
variable {W : World} {b g bm : Nat} {D : DS}

/-- what the library's sort does to a row of ints -/
def SortsInts : Prop := ∀ (blk off cap : Nat) (zs : List Int) (w : World), Holds (Value.int .i64) w blk off zs.toArray → blk < w.heap.size → zs.length < 4611686018427387904 →
  Calls Try.prog 32 #[.slice (some ⟨blk, off, none⟩) zs.length cap] w fun e w' => e = .returned (.tuple #[]) ∧ ∃ n os, w' = grow (putRow (Value.int .i64) (Sort.ahead w n) blk off (zs.mergeSort fun x y => decide (x ≤ y)).toArray) os
def SortsNone : Prop := ∀ (p : Option Addr) (cap : Nat) (w : World), Calls Try.prog 32 #[.slice p 0 cap] w fun e w' => e = .returned (.tuple #[]) ∧ w' = w

theorem holds_row {w : World} {g : Nat} {cur : Array Value} {e : TypeId} {ss : List Int} (hb : w.heap[g]? = some (.cells cur e (0, 0))) (ht : cur.toList.take ss.length = ss.map (Value.int .i64)) : Holds (Value.int .i64) w g 0 ss.toArray := by
  intro j hj
  have hj' : j < ss.length := by simpa using hj
  refine ⟨?_, by simp [World.frozen?, hb]⟩
  have h1 : (cur.toList.take ss.length)[j]? = (ss.map (Value.int .i64))[j]? := by rw [ht]
  rw [List.getElem?_take_of_lt hj'] at h1
  simp only [World.cell?, hb, Nat.zero_add]
  simp only [Option.isSome_none, Bool.false_eq_true, if_false]
  rw [← Array.getElem?_toList, h1]
  simp [hj']
theorem heap_sort {w : World} {g n : Nat} {os : Array Obj} {cur : Array Value} {e : TypeId} {fr : Nat × Nat} (d : Array Int) (hb : w.heap[g]? = some (.cells cur e fr)) :
    (grow (putRow (Value.int .i64) (Sort.ahead w n) g 0 d) os).heap[g]? = some (.cells (putCells (Value.int .i64) 0 d cur) e fr) := by
  have hg : g < w.heap.size := (Array.getElem?_eq_some_iff.1 hb).1
  rw [heap_grow_old _ _ (by simpa using hg)]
  simp [putRow, mapBlock, Sort.ahead, Array.getElem?_modify, hb, onCells]
theorem grown_sort {w : World} {g n : Nat} {os : Array Obj} (d : Array Int) : w.grownBy (grow (putRow (Value.int .i64) (Sort.ahead w n) g 0 d) os) (some g) := by
  refine ⟨rfl, rfl, rfl, by simp, fun k hk hne => ?_⟩
  rw [heap_grow_old _ _ (by simpa using hk)]
  have : g ≠ k := fun e => hne (by rw [e])
  simp [putRow, mapBlock, Sort.ahead, Array.getElem?_modify, this]
theorem take_put (cur : Array Value) (ts : List Int) (h : ts.length ≤ cur.size) : (putCells (Value.int .i64) 0 ts.toArray cur).toList.take ts.length = ts.map (Value.int .i64) := by
  apply List.ext_getElem?
  intro j
  by_cases hj : j < ts.length
  · rw [List.getElem?_take_of_lt hj, Array.getElem?_toList]
    simp [putCells, hj, show j < cur.size by omega]
  · rw [List.getElem?_take_eq_none (by omega), List.getElem?_eq_none (by simp; omega)]
theorem owns_sort {w : World} {base g cap n : Nat} {e : TypeId} {os : Array Obj} {cur : Array Value} {ss ts : List Int} (hl : ts.length = ss.length) (hbase : base ≤ g) (hb : w.heap[g]? = some (.cells cur e (0, 0)))
    (h1 : ss.length ≤ cap) (h2 : cap ≤ maxLen) (h3 : cur.size = cap * 1) :
    (grow (putRow (Value.int .i64) (Sort.ahead w n) g 0 ts.toArray) os).ownsRow base e 1 (.slice (some ⟨g, 0, none⟩) ss.length cap) ss.length (ts.map (Value.int .i64)) :=
  ⟨by simp [hl], .inr ⟨g, cap, _, rfl, hbase, heap_sort _ hb, h1, h2, by simp [putCells, h3], by rw [Nat.mul_one, ← hl]; exact take_put cur ts (by omega)⟩⟩

/-- the places met so far -/
structure Met (D : DS) (left : Lit → Bool) (ss : List Nat) : Prop where
  nodup : ss.Nodup
  mem : ∀ i : Nat, i ∈ ss ↔ (D.news.getD i none).isSome = true ∧ left (.int .i64 i) = false
theorem Met.start (D : DS) : Met D (Maps.has (datum D.news)) [] := ⟨List.nodup_nil, fun i => by rw [datum_has]; cases (D.news.getD i none) <;> simp⟩
theorem Met.step {D : DS} {left : Lit → Bool} {ss : List Nat} (h : Met D left ss) {i : Nat} {c : Bs} (hi : D.news[i]? = some (some c)) (hl : left (.int .i64 i) = true) : Met D (fun z => left z && !z.sameKey (.int .i64 i)) (ss ++ [i]) := by
  have hni : i ∉ ss := fun hm => by have := ((h.mem i).1 hm).2; rw [hl] at this; cases this
  refine ⟨?_, fun j => ?_⟩
  · rw [List.nodup_append]
    refine ⟨h.nodup, by simp, ?_⟩
    intro a ha b hb
    simp at hb
    subst hb
    rintro rfl
    exact hni ha
  · rw [List.mem_append, List.mem_singleton, h.mem j, sameKey_int]
    by_cases e : j = i
    · subst e
      simp [List.getD_eq_getElem?_getD, hi]
    · have e2 : ((j : Int) = (i : Int)) = False := by simp; omega
      simp [e, e2]
theorem sort_unique {l l' : List Int} (h : l.Perm l') (hs : l'.Pairwise (fun a b => a ≤ b)) : l.mergeSort (fun x y => decide (x ≤ y)) = l' := by
  have tr : ∀ a b c : Int, decide (a ≤ b) = true → decide (b ≤ c) = true → decide (a ≤ c) = true := fun a b c h1 h2 => by simp only [decide_eq_true_eq] at *; omega
  have to : ∀ a b : Int, (decide (a ≤ b) || decide (b ≤ a)) = true := fun a b => by simp only [Bool.or_eq_true, decide_eq_true_eq]; omega
  refine List.Perm.eq_of_pairwise (le := fun a b => a ≤ b) (fun a b _ _ h1 h2 => by omega) ?_ hs ((List.mergeSort_perm l _).trans h)
  exact (List.pairwise_mergeSort tr to l).imp (fun h => by simpa using h)
theorem Met.done {D : DS} {left : Lit → Bool} {ss : List Nat} (h : Met D left ss) (hl : ∀ kl, left kl = false) : (ss.map (fun (i : Nat) => (i : Int))).mergeSort (fun x y => decide (x ≤ y)) = (dirty D).map (fun (i : Nat) => (i : Int)) := by
  have hp : ss.Perm (dirty D) := by
    refine (List.perm_ext_iff_of_nodup h.nodup ?_).2 fun i => ?_
    · exact (dirtyFrom_sorted (l := D.news) (k := 0)).imp (fun h => by omega)
    · rw [h.mem, hl, dirty_mem, List.getD_eq_getElem?_getD]
      cases hn : D.news[i]? with
      | none => simp
      | some x => cases x <;> simp
  refine sort_unique (hp.map _) ?_
  rw [List.pairwise_map]
  exact (dirtyFrom_sorted (l := D.news) (k := 0)).imp (fun h => by omega)
theorem dirtyFrom_length (l : List (Option Bs)) : ∀ k, (dirtyFrom k l).length ≤ l.length := by
  induction l with
  | nil => intro k; simp [dirtyFrom]
  | cons x l ih =>
    intro k
    have := ih (k + 1)
    cases x <;> simp [dirtyFrom] <;> omega

theorem int_info : (Try.prog.info? 3).map (fun i => (i.zero, i.size, i.bytes)) = some (some (.int .i64 0), 1, 8) := by kernel_rfl

def ints (l : List Nat) : List Value := l.map fun (i : Nat) => Value.int .i64 (i : Int)
def DirtyInv (bm r : Nat) (D : DS) (W : World) (v : Value) (wr : World) : Prop := ∃ (left : Lit → Bool) (cnt : Nat) (ss : List Nat), wr.ranges Try.prog 3 secElem bm r (Maps.size (datum D.news)) (datum D.news) left cnt ∧
  wr.ownsRow W.heap.size 3 1 v ss.length (ints ss) ∧ Met D left ss ∧ ss.length + cnt ≤ 4096 ∧ Below W.heap.size W wr

set_option maxRecDepth 100000 in
set_option maxHeartbeats 2000000 in
theorem dirty_any (hsort : SortsInts) (hnone : SortsNone) (h : IsDisk W b g bm D) : Calls Try.prog 15 #[.pointer (some ⟨b, 0, none⟩)] W fun e w' => ∃ v, e = .returned v ∧ w'.ownsRow W.heap.size 3 1 v (dirty D).length (ints (dirty D)) ∧ Below W.heap.size W w' := by
  have c1 := h.c1
  have hmap := h.map
  obtain ⟨i0, hi, hz0, hz1, hz2⟩ := info_parts int_info
  have HH := Lib.hid h
  have HM := Lib.hid (show bm < W.heap.size from h.lt_m)
  have hsz : Maps.size (datum D.news) ≤ 4096 := by
    have := datum_size D.news
    have := h.ok.len
    have := h.ok.hi
    omega
  have HSORT := Lib.hid hsort
  have HNONE := Lib.hid hnone
  clear h hsort hnone
  go_enter Try.func15, Try.ntmps15
  go_wp2_with (at_range; refine wpList_range_own _ rfl _ 54 rfl 3 58 (Maps.int_keyed Try.underlying3) Try.underlying54 secElem bm _ _ rfl hmap ?_; intro w0 hrg0 hg0 hs0)
  try go_frame
  obtain ⟨r, hr⟩ : ∃ r, r = W.heap.size := ⟨_, rfl⟩
  rw [← hr] at hrg0 hs0 ⊢
  have HR := Lib.hid hr
  have HS0 := Lib.hid hs0
  clear hr hs0 c1 hmap
  go_loopw [2, 3] (fun v _ wr => DirtyInv bm r D W v wr) (fun _ _ wr => wr.rangeLeft bm r)
  case atStart =>
    have hb0 : Below W.heap.size W w0 := (Below.refl _ _).grown hg0 (Nat.le_refl _) (fun k e => by cases e)
    exact ⟨_, _, [], hrg0, World.ownsRow_nil _ _ _ _, Met.start D, by simpa using hsz, hb0⟩
  case round =>
    obtain ⟨left, cnt, ss, hrg, hown, hmet, hcnt, hbel⟩ := hrel
    have HMET := Lib.hid hmet
    have HBEL := Lib.hid hbel
    have HOWN := Lib.hid hown
    have HCNT := Lib.hid hcnt
    clear hmet hbel hown hcnt
    go_wp2_with (at_next; refine wpList_next_disk rfl _ rfl 3 (Maps.int_keyed Try.underlying3) Try.underlying3 bm r _ D.news _ _ rfl hrg ?_ ?_)
    · intro hc0 hl0
      have hsorted := HMET.out.done hl0
      have hnr := row_ne_iter HOWN.out hrg
      have HSD := Lib.hid hsorted
      clear hsorted hl0 hc0
      rcases HOWN.out.2 with ⟨rfl, hz⟩ | ⟨q, cap, cur, rfl, hq, hb, k1, k2, k3, k4⟩
      · have hnc := HNONE.out none 0 wr
        have HNC := Lib.hid hnc
        clear hnc
        go_wp2_with (go_at_call 32; refine HNC.out.mono ?_; rintro e w' ⟨rfl, rfl⟩)
        go_ret
        have hs0 : ss = [] := List.eq_nil_of_length_eq_zero hz
        subst hs0
        have hd : dirty D = [] := by
          have := HSD.out
          simp at this
          exact this
        refine ⟨_, rfl, ?_, HBEL.out⟩
        rw [hd]
        exact World.ownsRow_nil _ _ _ _
      · have hH : Holds (Value.int .i64) wr q 0 (ss.map (fun (i : Nat) => (i : Int))).toArray := holds_row hb (by have := k4; rw [Nat.mul_one] at this; rw [List.length_map, List.map_map]; exact this)
        have hlen : (ss.map (fun (i : Nat) => (i : Int))).length = ss.length := by simp
        have hc := HSORT.out q 0 cap (ss.map (fun (i : Nat) => (i : Int))) wr hH ((Array.getElem?_eq_some_iff.1 hb).1) (by have := HCNT.out; rw [hlen]; omega)
        rw [hlen, HSD.out] at hc
        have hdl : ((dirty D).map (fun (i : Nat) => (i : Int))).length = (ss.map (fun (i : Nat) => (i : Int))).length := by rw [← HSD.out, List.length_mergeSort]
        have HC := Lib.hid hc
        have HDL := Lib.hid hdl
        have HB := Lib.hid hb
        have HK4 := Lib.hid k4
        have HK3 := Lib.hid k3
        clear hc hdl hH hb k4 k3
        go_wp2_with (go_at_call 32; refine HC.out.mono ?_; rintro e w' ⟨rfl, nn, os, rfl⟩)
        go_ret
        refine ⟨_, rfl, ?_, HBEL.out.grown (grown_sort _) HBEL.out.size (fun k e => by cases e; exact hq)⟩
        have hfin := owns_sort (n := nn) (os := os) (ts := (dirty D).map (fun (i : Nat) => (i : Int))) (ss := ss.map (fun (i : Nat) => (i : Int))) HDL.out hq HB.out (by rw [hlen]; exact k1) k2 HK3.out
        rw [← HDL.out] at hfin
        simp only [List.length_map, List.map_map] at hfin
        have hll : (dirty D).length = ss.length := by have := HDL.out; simpa using this
        rw [← hll]
        exact hfin
    · intro i c w1 cnt1 hcl hci hli hrg1 hlt hg1 hs1 hen
      have hni := row_ne_iter HOWN.out hrg
      have hown1 := HOWN.out.kept hg1 (.inr hni.symm)
      have hmet1 := HMET.out.step hci hli
      have hbel1 := HBEL.out.grown hg1 HBEL.out.size (fun k e => by cases e; have := HR.out; omega)
      have hcnt1 : ss.length + 1 ≤ 4096 := by have := HCNT.out; omega
      have hcnt2 : (ss ++ [i]).length + cnt1 ≤ 4096 := by have := HCNT.out; simp; omega
      have HMET1 := Lib.hid hmet1
      have HBEL1 := Lib.hid hbel1
      have HRG1 := Lib.hid hrg1
      have HRG := Lib.hid hrg
      have HCNT2 := Lib.hid hcnt2
      clear hcl hci hli hs1 hrg1 hmet1 hrg hcnt2 hbel1 hni
      go_wp2_with (at_builtin; refine wpList_append_own _ rfl _ _ 29 rfl W.heap.size 3 i0 (.int .i64 0) 1 8 Try.underlying29 hi hz0 hz1 hz2 rfl (by decide) _ _ _ rfl (hown1.alloc _) ⟨w1.heap.size, 0, none⟩ 1 1 [.int .i64 (i : Int)] rfl rfl (cell_one_new _ _ _) (by simp [Value.oneCell']) (by unfold maxLen; omega) (by omega) (by have := HBEL1.out.size; simp; omega) ?_; intro v' w2 hown2 hgrow2 hnil2)
      have hrg2 := (HRG1.out.alloc (.cells #[.int .i64 (i : Int)] 3)).kept hgrow2 (row_ne_low (hown1.alloc (.cells #[.int .i64 (i : Int)] 3)) HM.out) (row_ne_iter (hown1.alloc (.cells #[.int .i64 (i : Int)] 3)) (HRG1.out.alloc _))
      have hbel2 := (HBEL1.out.alloc HBEL1.out.size (.cells #[.int .i64 (i : Int)] 3)).grown hgrow2 (by have := HBEL1.out.size; simp; omega) (fun k e => ((hown1.alloc (.cells #[.int .i64 (i : Int)] 3)).lt k e).1)
      have HRG2 := Lib.hid hrg2
      have HBEL2 := Lib.hid hbel2
      have HOWN2 := Lib.hid hown2
      clear hrg2 hbel2 hown2 hnil2 hgrow2
      go_wp2
      go_roundw
      case rel => exact ⟨_, cnt1, ss ++ [i], HRG2.out, by rw [List.length_append]; simpa [ints] using HOWN2.out, HMET1.out, HCNT2.out, HBEL2.out⟩
      case measure => rw [HRG2.out.left_eq, HRG.out.left_eq]; exact hlt
end Go.Proofs.Ytoafebndlldclaa.Dk
