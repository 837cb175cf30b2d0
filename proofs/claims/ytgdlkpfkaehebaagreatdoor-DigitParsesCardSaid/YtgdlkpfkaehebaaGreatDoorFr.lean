/- digit.From: digits to a base put together again: the walk. -/
import Derived.Test.YtgdlkpfkaehebaaGreatDoorFo
set_option linter.unusedVariables false
namespace Go.Proofs.YtgdlkpfkaehebaaGreatDoor.Fr
open Go Go.RowKit Go.Proofs.YtgdlkpfkaehebaaGreatDoorW.PrintWords Go.Proofs.YtgdlkpfkaehebaaGreatDoorW.PrintLast Go.Proofs.YtgdlkpfkaehebaaGreatDoorW.PrintMore
open Nt Lm It Tk Bs Ad Fo
attribute [local go_sem] Oper.semAt_some

abbrev B8 : Nat := 18446744073709551616 ^ 8
def boxE (W : World) (B : Nat) (v : Value) : Prop := W.heap[B]? = some (.cells #[v] 25 (0, 0))
/-- what has been put together of the last m digits -/
def part (b : Nat) (l : List Nat) (m : Nat) : Nat := unb b (l.drop (l.length - m))
theorem part_zero (b : Nat) (l : List Nat) : part b l 0 = 0 := by unfold part; rw [Nat.sub_zero, List.drop_length]; rfl
theorem part_succ (b : Nat) (l : List Nat) (m : Nat) (h : m < l.length) : part b l (m + 1) = part b l m * b + atL l (l.length - 1 - m) := by
  unfold part
  rw [unb_drop_at b l (l.length - (m + 1)), show l.length - (m + 1) + 1 = l.length - m by omega, show l.length - (m + 1) = l.length - 1 - m by omega, Nat.mul_comm]
  omega
theorem part_all (b : Nat) (l : List Nat) : part b l l.length = unb b l := by unfold part; rw [Nat.sub_self]; rfl
theorem part_le (b : Nat) (hb : 1 ≤ b) (l : List Nat) (m : Nat) : part b l m ≤ unb b l := unb_drop_le b hb l _

/-- the error, and the number -/
def fromE (b : Nat) (l : List Nat) : Int := if unb b l < B8 then 0 else 21
def fromL (b : Nat) (l : List Nat) : List Nat := if unb b l < B8 then ofN (unb b l) else []
/-- between two rounds: t the first block of the call's own: b's box, the two results, x, the iterator's slice -/
structure FrAt (w : World) (b : Nat) (l : List Nat) (pre : List (Nat × Nat)) (W : World) : Prop where
  bb : boxU W w.heap.size (.int .u64 (b : Int))
  rx : boxN W (w.heap.size + 1) (.slice none 0 0)
  re : boxE W (w.heap.size + 2) (.int .i64 0)
  x : ∃ v, boxS W (w.heap.size + 3) v ∧ Nw W w.heap.size v (ofN (part b l pre.length))
  len : pre.length ≤ l.length
  fit : part b l pre.length < B8
  below : Below w.heap.size w W
/-- the call has answered that it is too great -/
structure FrOut (w : World) (b : Nat) (l : List Nat) (W : World) : Prop where
  rx : boxN W (w.heap.size + 1) (.slice none 0 0)
  re : boxE W (w.heap.size + 2) (.int .i64 21)
  big : B8 ≤ unb b l
  below : Below w.heap.size w W

theorem nw_grown' {w w' : World} {lo B : Nat} {v : Value} {xs : List Nat} (h : Nw w lo v xs) {row : Option Nat} (hg : w.grownBy w' row) (hr : ∀ r, row = some r → B ≤ r ∧ ∃ o : Obj, w.heap[r]? = some o ∧ o.isCells = false) : Nw w' lo v xs := by
  refine nw_grown h hg (fun k e e2 => ?_)
  obtain ⟨_, o, ho, hc⟩ := hr k e
  obtain ⟨_, cells, hk⟩ := nw_block h k e2.symm
  rw [hk] at ho
  cases ho
  cases hc
theorem FrAt.grown {w W W' : World} {b : Nat} {l : List Nat} {pre : List (Nat × Nat)} {row : Option Nat} (h : FrAt w b l pre W) (hg : W.grownBy W' row)
    (hr : ∀ r, row = some r → w.heap.size + 5 ≤ r ∧ ∃ o : Obj, W.heap[r]? = some o ∧ o.isCells = false) : FrAt w b l pre W' := by
  obtain ⟨v, h1, h2⟩ := h.x
  have hn : ∀ k, k < w.heap.size + 5 → some k ≠ row := fun k hk e => by have := (hr k e.symm).1; omega
  exact ⟨blk_grown h.bb hg (hn _ (by omega)), blk_grown h.rx hg (hn _ (by omega)), blk_grown h.re hg (hn _ (by omega)), ⟨v, blk_grown h1 hg (hn _ (by omega)), nw_grown' h2 hg hr⟩, h.len, h.fit, h.below.grown hg h.below.size (fun k e => by have := (hr k e).1; omega)⟩
theorem FrOut.grown {w W W' : World} {b : Nat} {l : List Nat} {row : Option Nat} (h : FrOut w b l W) (hg : W.grownBy W' row)
    (hr : ∀ r, row = some r → w.heap.size + 5 ≤ r ∧ ∃ o : Obj, W.heap[r]? = some o ∧ o.isCells = false) : FrOut w b l W' := by
  have hn : ∀ k, k < w.heap.size + 5 → some k ≠ row := fun k hk e => by have := (hr k e.symm).1; omega
  exact ⟨blk_grown h.rx hg (hn _ (by omega)), blk_grown h.re hg (hn _ (by omega)), h.big, h.below.grown hg h.below.size (fun k e => by have := (hr k e).1; omega)⟩

theorem fr_next {w W w2 : World} {b B : Nat} {l : List Nat} {pre : List (Nat × Nat)} {x : Nat × Nat} {v : Value} {R : Nat} {a : Act} {Ix : Code → List (Nat × Nat) → World → Prop} (h : FrAt w b l pre W) (hb : Below W.heap.size W w2) (hW3 : w.heap.size + 5 ≤ W.heap.size) (hB : w.heap.size + 3 < B) (hlen : pre.length < l.length)
    (hv : Nw w2 w.heap.size v (ofN R)) (hR : part b l (pre.length + 1) = R) (hfit : R < B8) :
    ownPostG B (KpX (w.heap.size + 3)) (fun pre W => FrAt w b l pre W) Ix (pre ++ [x]) W .normal a (w2.setCell ⟨w.heap.size + 3, 0, none⟩ v) := by
  have hz := hb.size
  obtain ⟨v0, k1, k2⟩ := h.x
  have h0 : boxS w2 (w.heap.size + 3) v0 := (hb.block _ (by omega)).trans k1
  have hbox : boxS (w2.setCell ⟨w.heap.size + 3, 0, none⟩ v) (w.heap.size + 3) v := blk_set h0 0 _
  have hsz : (w2.setCell ⟨w.heap.size + 3, 0, none⟩ v).heap.size = w2.heap.size := by simp
  have hother : ∀ k o, k ≠ w.heap.size + 3 → W.heap[k]? = some o → (w2.setCell ⟨w.heap.size + 3, 0, none⟩ v).heap[k]? = some o := fun k o hk ho => by
    rw [Below.heap_setCell _ _ _ _ (by exact hk)]
    exact (hb.block k (Array.getElem?_eq_some_iff.1 ho).1).trans ho
  have hne : ∀ k, v.ownBlock = some k → k ≠ w.heap.size + 3 := by
    rintro k hk rfl
    obtain ⟨_, cells, hc⟩ := nw_block hv _ hk
    rw [show w2.heap[w.heap.size + 3]? = _ from h0] at hc
    simp at hc
  refine ⟨⟨by omega, fun k o hk ho _ => hother k o (by omega) ho⟩, ⟨by omega, fun k o h1 h3 _ => hother k o h1 h3⟩, ?_⟩
  refine ⟨hother _ _ (by omega) h.bb, hother _ _ (by omega) h.rx, hother _ _ (by omega) h.re, ⟨v, hbox, ?_⟩, by simp; omega, by rw [List.length_append]; simp; rw [hR]; exact hfit, ?_⟩
  · have e : (pre ++ [x]).length = pre.length + 1 := by simp
    rw [e, hR]
    exact nw_grown hv (grownBy_setCell' _ _ _) (fun k e1 e2 => by injection e1 with e1; exact hne k e2.symm e1.symm)
  · exact (h.below.trans (hb.mono h.below.size)).setCell (by show w.heap.size ≤ w.heap.size + 3; omega) _

theorem fr_out {w W w2 : World} {b B : Nat} {l : List Nat} {pre : List (Nat × Nat)} {xs : List (Nat × Nat)} {u v : Value} {a : Act} {Kp : World → World → Prop} {I : List (Nat × Nat) → World → Prop} (h : FrAt w b l pre W) (hb : Below W.heap.size W w2) (hW3 : w.heap.size + 5 ≤ W.heap.size) (hB : w.heap.size + 3 < B)
    (hz : boxS w2 (w.heap.size + 3) u) (hbig : B8 ≤ unb b l) :
    ownPostG B Kp I (fun c _ W => c = .ret ∧ FrOut w b l W) xs W .ret a (((w2.setCell ⟨w.heap.size + 3, 0, none⟩ v).setCell ⟨w.heap.size + 1, 0, none⟩ (.slice none 0 0)).setCell ⟨w.heap.size + 1 + 1, 0, none⟩ (.int .i64 21)) := by
  have hzz := hb.size
  have h1 : boxN w2 (w.heap.size + 1) (.slice none 0 0) := (hb.block _ (by omega)).trans h.rx
  have h2 : boxE w2 (w.heap.size + 2) (.int .i64 0) := (hb.block _ (by omega)).trans h.re
  refine ⟨⟨by simp; omega, fun k o hk ho _ => ?_⟩, rfl, ⟨?_, ?_, hbig, ?_⟩⟩
  · rw [Below.heap_setCell _ _ _ _ (by show k ≠ w.heap.size + 1 + 1; omega), Below.heap_setCell _ _ _ _ (by show k ≠ w.heap.size + 1; omega), Below.heap_setCell _ _ _ _ (by show k ≠ w.heap.size + 3; omega)]
    exact (hb.block k (Array.getElem?_eq_some_iff.1 ho).1).trans ho
  · rw [boxN, Below.heap_setCell _ _ _ _ (by show w.heap.size + 1 ≠ w.heap.size + 1 + 1; omega)]
    refine blk_set (cs := #[.slice none 0 0]) ?_ 0 _
    rw [Below.heap_setCell _ _ _ _ (by show w.heap.size + 1 ≠ w.heap.size + 3; omega)]
    exact h1
  · refine blk_set (cs := #[.int .i64 0]) ?_ 0 _
    rw [Below.heap_setCell _ _ _ _ (by show w.heap.size + 1 + 1 ≠ w.heap.size + 1; omega), Below.heap_setCell _ _ _ _ (by show w.heap.size + 1 + 1 ≠ w.heap.size + 3; omega)]
    exact h2
  · exact (((h.below.trans (hb.mono h.below.size)).setCell (p := ⟨w.heap.size + 3, 0, none⟩) (by show w.heap.size ≤ w.heap.size + 3; omega) _).setCell (p := ⟨w.heap.size + 1, 0, none⟩) (by show w.heap.size ≤ w.heap.size + 1; omega) _).setCell (p := ⟨w.heap.size + 1 + 1, 0, none⟩) (by show w.heap.size ≤ w.heap.size + 1 + 1; omega) _

set_option maxRecDepth 100000 in
set_option maxHeartbeats 4000000 in
theorem from_call (A : Option Addr) (c : Nat) (l : List Nat) (b : Nat) (w : World) (hr : Rw w A l) (hc : l.length ≤ c) (hb2 : 2 ≤ b) (hb64 : b < 18446744073709551616) (hl : l.length ≤ 900) (hd : ∀ d ∈ l, d < b) :
    Calls Tryz.prog 11 #[.slice A l.length c, .int .u64 (b : Int)] w fun e w' => ∃ v, e = .returned (.tuple #[v, .int .i64 (fromE b l)]) ∧ Nw w' w.heap.size v (fromL b l) ∧ Below w.heap.size w w' := by
  refine (callsIn_wide (n := 6)).1 ?_
  have HR := Lib.hid hr
  have HD := Lib.hid hd
  have hlt : decide ((b : Int) < 2) = false := decide_eq_false (by omega)
  clear hr hd
  refine callsIn_of_wp_marks Tryz.func11 rfl trivial ?_ rfl
  simp only [Tryz.ntmps11, List.size_toArray, List.length_cons, List.length_nil, Nat.reduceAdd, Nat.reduceSub, Array.replicate_succ, Array.replicate_zero, List.push_toArray, List.append_toArray, List.nil_append, List.cons_append]
  gi_wp2_with fail
  refine ⟨trivial, ?_⟩
  obtain ⟨W1, hW1⟩ : ∃ W1, ((w.alloc (.cells #[.int .u64 (b : Int)] 31)).alloc (.cells #[.slice none 0 0] 24)).alloc (.cells #[.int .i64 0] 25) = W1 := ⟨_, rfl⟩
  have hs1 : W1.heap.size = w.heap.size + 3 := by rw [← hW1]; simp
  have hB1 : Below w.heap.size w W1 := by
    rw [← hW1]
    exact (((Below.refl _ w).alloc (Nat.le_refl _) _).alloc (by simp) _).alloc (by simp; omega) _
  have hb1 : boxU W1 w.heap.size (.int .u64 (b : Int)) := by
    rw [← hW1]
    exact blk_grown (blk_grown (World.alloc_heap_new w _) (World.grownBy_alloc _ _ none) (by simp)) (World.grownBy_alloc _ _ none) (by simp)
  have hb2' : boxN W1 (w.heap.size + 1) (.slice none 0 0) := by
    rw [← hW1]
    have := World.alloc_heap_new (w.alloc (.cells #[.int .u64 (b : Int)] 31)) (.cells #[.slice none 0 0] 24)
    rw [World.size_alloc] at this
    exact blk_grown this (World.grownBy_alloc _ _ none) (by simp)
  have hb3 : boxE W1 (w.heap.size + 2) (.int .i64 0) := by
    rw [← hW1]
    have := World.alloc_heap_new ((w.alloc (.cells #[.int .u64 (b : Int)] 31)).alloc (.cells #[.slice none 0 0] 24)) (.cells #[.int .i64 0] 25)
    rw [World.size_alloc, World.size_alloc] at this
    exact this
  rw [hW1]
  clear hW1
  have HB1 := Lib.hid hB1
  refine (callsIn_wide.2 (contains_call A c l b w.heap.size W1 (HR.out.below hB1) (by omega) hb1 HD.out)).mono ?_
  rintro e w' ⟨rfl, rfl⟩
  have K1 := Lib.hid hb1
  have K2 := Lib.hid hb2'
  have K3 := Lib.hid hb3
  have kc1 := (Fo.boxU.cell hb1).1
  clear hB1 hb1 hb2' hb3
  gi_wp2_with (refine ⟨trivial, ?_⟩; gi_at_call 30; refine (callsIn_wide.2 (backward_call _ _ _ _)).mono ?_; rintro e w' ⟨rfl, rfl⟩)
  obtain ⟨W0, hW0⟩ : ∃ W0, (W1.alloc (.cells #[.slice none 0 0] 23)).alloc (.cells #[.slice A l.length c] 23) = W0 := ⟨_, rfl⟩
  have hs : W0.heap.size = w.heap.size + 5 := by rw [← hW0]; simp; omega
  have hg01 : W1.grownBy W0 none := by rw [← hW0]; exact World.grownBy.trans (World.grownBy_alloc _ _ none) (World.grownBy_alloc _ _ none)
  have hB0 : Below w.heap.size w W0 := HB1.out.grown hg01 HB1.out.size (fun k e => by cases e)
  have hx0 : boxS W0 (w.heap.size + 3) (.slice none 0 0) := by
    rw [← hW0, ← hs1]
    exact blk_grown (World.alloc_heap_new W1 _) (World.grownBy_alloc _ _ none) (by simp)
  have hS0 : boxS W0 (w.heap.size + 3 + 1) (.slice A l.length c) := by
    rw [← hW0, ← hs1]
    have := World.alloc_heap_new (W1.alloc (.cells #[.slice none 0 0] 23)) (.cells #[.slice A l.length c] 23)
    rw [World.size_alloc] at this
    exact this
  have hC : FrAt w b l [] W0 := by
    refine ⟨blk_grown K1.out hg01 (by simp), blk_grown K2.out hg01 (by simp), blk_grown K3.out hg01 (by simp), ⟨_, hx0, ?_⟩, by simp, ?_, hB0⟩
    · rw [List.length_nil, part_zero]; unfold ofN; rw [digs_zero]; exact Nw.nil _ _
    · rw [List.length_nil, part_zero]; decide
  have hap : ∀ ad, A = some ad → 0 < l.length → ad.block ≠ w.heap.size + 3 := by
    intro ad e hp
    subst e
    obtain ⟨o, ho, _⟩ := Rw_cells HR.out hp
    have := (Array.getElem?_eq_some_iff.1 ho).1
    omega
  have HS := Lib.hid (backward_iter 5 (by omega) (w.heap.size + 3 + 1) (w.heap.size + 3) (by omega) A l c W0 (by omega) hS0 (HR.out.below hB0) hap)
  have HC0 := Lib.hid hC
  rw [hW0]
  clear hC hap hS0 hx0 hB0 hg01 hW0 kc1
  refine wpIn_rangeFunc_iter (w := W0) (T := fun _ => False) (Kp := KpX (w.heap.size + 3)) rfl (by omega) (gf := 55) (lb := #[.pointer (some ⟨w.heap.size + 3 + 1, 0, none⟩)]) rfl trivial (enters_of Tryz.func55 (by kernel_rfl) rfl)
    HS.out (fun k hk => hk.elim)
    (fun hA hB => hA.trans hB) (fun W l o o' hl ho hc _ => KpX.put W l o o' ho hc) (Below.refl _ _) (fun _ => rfl)
    (fun pre W => FrAt w b l pre W) (fun c _ W => c = .ret ∧ FrOut w b l W)
    (fun s X Y row hs2 hg hr => hs2.grown hg (fun r e => (hr r e).elim (fun h => h.elim) (fun h => ⟨by omega, h.2⟩)))
    (fun c s X Y row hs2 hg hr => ⟨hs2.1, hs2.2.grown hg (fun r e => (hr r e).elim (fun h => h.elim) (fun h => ⟨by omega, h.2⟩))⟩)
    HC0.out
    (fun pre x a' W => (pre.length < l.length ∧ x = (l.length - 1 - pre.length, atL l (l.length - 1 - pre.length))) ∧ a' = { tmps := #[.slice A l.length c, .int .u64 (b : Int), undef, .pointer (some ⟨w.heap.size, 0, none⟩), .pointer (some ⟨w.heap.size + 1, 0, none⟩), .pointer (some ⟨w.heap.size + 1 + 1, 0, none⟩), .func (.func 28) #[] #[.pointer (some ⟨w.heap.size, 0, none⟩)], .pointer (some ⟨w.heap.size + 3, 0, none⟩), undef, .int .u64 (x.2 : Int), .func (.func 28) #[] #[.pointer (some ⟨w.heap.size, 0, none⟩)], .int .u64 (b : Int), .bool false, .bool false, .slice A l.length c, .func (.func 28) #[] #[.pointer (some ⟨w.heap.size, 0, none⟩)], .bool false, .bool false, .slice A l.length c, .func (.func 55) #[] #[.pointer (some ⟨w.heap.size + 3 + 1, 0, none⟩)], .int .i64 (x.1 : Int), .int .u64 (x.2 : Int), undef, undef, undef, undef, undef, undef, undef, undef, undef, undef, undef], defers := [] })
    ?hAx ?hS ?hSp ?assign ?body ?done ?stop
  case hAx =>
    rintro pre x a' s X Z row k4 hg hr
    exact k4
  case hS =>
    rintro s X Z row k1 hg hr
    exact k1
  case hSp =>
    rintro s X Z row k1 hg hr
    exact k1
  case assign =>
    rintro lp pre x W K hI hy hK
    obtain ⟨xi, xd⟩ := x
    simp only [encB]
    gi_wp2
    exact hK _ _ (KeepsFrom.refl _ _) (KpX.refl _ _) hI ⟨hy, rfl⟩
  case body =>
    rintro lp pre x a' W hl2 hex hI ⟨⟨hpl, rfl⟩, rfl⟩ hlt2
    have hW3 : w.heap.size + 5 ≤ W.heap.size := by
      obtain ⟨rr, hrr⟩ := hex
      have := (Array.getElem?_eq_some_iff.1 hrr).1
      omega
    obtain ⟨v, v1, v2⟩ := hI.x
    obtain ⟨x1, x2⟩ := v1.cell
    obtain ⟨b1, b2⟩ := Fo.boxU.cell hI.bb
    obtain ⟨A5, c5, e5, hc5, hr5⟩ := v2.open
    subst e5
    obtain ⟨m, hm⟩ : ∃ m, m = pre.length := ⟨_, rfl⟩
    rw [← hm] at hpl
    obtain ⟨P, hP⟩ : ∃ n, n = part b l m := ⟨_, rfl⟩
    obtain ⟨d, hdd⟩ : ∃ n, n = atL l (l.length - 1 - m) := ⟨_, rfl⟩
    have hfit := hI.fit
    rw [← hm, ← hP] at v2 hr5 hc5 x1 hfit v1
    have hlen8 : (ofN P).length ≤ 8 := (ofN_len 8 P).2 hfit
    have hd64 : d < 18446744073709551616 := by
      have hlt3 : l.length - 1 - m < l.length := by omega
      have : d = l[l.length - 1 - m] := by rw [hdd]; unfold atL; rw [List.getD_eq_getElem?_getD, List.getElem?_eq_getElem hlt3]; rfl
      rw [this]
      exact Nat.lt_trans (HD.out _ (List.getElem_mem hlt3)) hb64
    simp only [← hm, ← hdd]
    have hmul : ∀ Wx, Below W.heap.size W Wx → Rw Wx (some ⟨W.heap.size, 0, none⟩) [b] → Calls Tryz.prog 32 #[.slice A5 (ofN P).length c5, .slice (some ⟨W.heap.size, 0, none⟩) 1 1] Wx fun e w' => ∃ v, e = .returned v ∧ Nw w' Wx.heap.size v (ofN (P * b)) ∧ Below Wx.heap.size Wx w' := by
      intro Wx h1 h2
      have := Mu.mul_call A5 (some ⟨W.heap.size, 0, none⟩) c5 1 (ofN P) [b] Wx (hr5.below h1) hc5 h2 (by simp) (ofN_lim P) (fun y hy => by have e : y = b := (by simpa using hy); omega) (by omega) (by simp)
      rw [val_ofN, show val [b] = b by simp [val]] at this
      exact this
    have hQ9 : (ofN (P * b)).length ≤ 9 := by
      refine (ofN_len 9 _).2 ?_
      rw [Nat.pow_succ]
      exact Nat.mul_lt_mul'' hfit hb64
    have hadd : ∀ (A6 : Option Addr) (c6 : Nat) (Wx : World) (Wy : World), Rw Wx A6 (ofN (P * b)) → (ofN (P * b)).length ≤ c6 → Below Wx.heap.size Wx Wy → Rw Wy (some ⟨Wx.heap.size, 0, none⟩) [d] → Calls Tryz.prog 31 #[.slice A6 (ofN (P * b)).length c6, .slice (some ⟨Wx.heap.size, 0, none⟩) 1 1] Wy fun e w' => ∃ v, e = .returned v ∧ Nw w' Wy.heap.size v (ofN (P * b + d)) ∧ Below Wy.heap.size Wy w' := by
      intro A6 c6 Wx Wy h1 h2 h3 h4
      have := add_call A6 (some ⟨Wx.heap.size, 0, none⟩) c6 1 (ofN (P * b)) [d] Wy (h1.below h3) h2 h4 (by simp) (ofN_lim _) (fun y hy => by have e : y = d := (by simpa using hy); omega) (by omega) (by simp)
      rw [val_ofN, show val [d] = d by simp [val]] at this
      exact this
    have hPn : part b l (m + 1) = P * b + d := by rw [part_succ b l m hpl, ← hP, ← hdd]
    have HMUL := Lib.hid hmul
    have HADD := Lib.hid hadd
    have HPN := Lib.hid hPn
    have HI := Lib.hid hI
    have HM := Lib.hid hm
    have HX := Lib.hid v1
    clear hmul hadd hPn hI hm hP hdd v1 v2 hr5 hfit
    gi_wp2_with (refine ⟨trivial, ?_⟩; gi_at_call 32; refine ((callsIn_wide.2 (HMUL.out _ (below_alloc (Below.refl _ _) _) (Rw.one W b))).inRound lp).mono ?_; rintro e1 w1 ⟨vm, rfl, hvm, hbm⟩; obtain ⟨A6, c6, e6, hc6, hr6⟩ := hvm.open; subst e6; clear hvm)
    have HR6 := Lib.hid hr6
    have HBM := Lib.hid hbm
    clear hr6 hbm
    refine ⟨trivial, ?_⟩
    refine ((callsIn_wide.2 (HADD.out A6 c6 w1 _ HR6.out hc6 (below_alloc (Below.refl _ _) _) (Rw.one w1 d))).inRound lp).mono ?_
    rintro e2 w2 ⟨va, rfl, hva, hba⟩
    obtain ⟨A7, c7, e7, hc7, hr7⟩ := hva.open
    subst e7
    have hbt1 : Below W.heap.size W w1 := (below_alloc (Below.refl W.heap.size W) _).trans (HBM.out.mono (by simp))
    have hbt2 : Below w1.heap.size w1 w2 := (below_alloc (Below.refl w1.heap.size w1) _).trans (hba.mono (by simp))
    have hbt : Below W.heap.size W w2 := hbt1.trans (hbt2.mono hbt1.size)
    have hz : boxS w2 (w.heap.size + 3) (.slice A5 (ofN P).length c5) := (hbt.block _ (by omega)).trans HX.out
    have hz1 : boxN w2 (w.heap.size + 1) (.slice none 0 0) := (hbt.block _ (by omega)).trans HI.out.rx
    have hz2 : boxE w2 (w.heap.size + 2) (.int .i64 0) := (hbt.block _ (by omega)).trans HI.out.re
    obtain ⟨y1, y2⟩ := hz.cell
    have q1 : w2.cell? ⟨w.heap.size + 1, 0, none⟩ = some (.slice none 0 0) := cell_of_row w2 _ 0 _ _ _ hz1
    have q2 : w2.frozen? ⟨w.heap.size + 1, 0, none⟩ = false := by simp [World.frozen?, show w2.heap[w.heap.size + 1]? = _ from hz1]
    have q3 : w2.cell? ⟨w.heap.size + 1 + 1, 0, none⟩ = some (.int .i64 0) := cell_of_row w2 _ 0 _ _ _ hz2
    have q4 : w2.frozen? ⟨w.heap.size + 1 + 1, 0, none⟩ = false := by simp [World.frozen?, show w2.heap[w.heap.size + 1 + 1]? = _ from hz2]
    have HBT := Lib.hid hbt
    have HVA := Lib.hid (hva.lower (lo' := w.heap.size) (by have := hbt1.size; have := HI.out.below.size; simp; omega))
    clear hva hba hbt1 hbt2 hbt hz hz1 hz2 hr7
    by_cases hf : P * b + d < B8
    · have hl8 := (ofN_len 8 (P * b + d)).2 hf
      obtain ⟨R, hR⟩ : ∃ n, n = P * b + d := ⟨_, rfl⟩
      rw [← hR] at hf HPN
      simp only [← hR] at *
      have HRR := Lib.hid hR
      clear hR
      gi_wp2
      exact fr_next (x := (l.length - 1 - m, d)) HI.out HBT.out hW3 (by omega) (by rw [← HM.out]; exact hpl) (v := .slice A7 (ofN R).length c7) (R := R) HVA.out (by rw [← HM.out]; exact HPN.out) hf
    · have hl8 : ¬ (ofN (P * b + d)).length ≤ 8 := fun h => hf ((ofN_len 8 _).1 h)
      obtain ⟨R, hR⟩ : ∃ n, n = P * b + d := ⟨_, rfl⟩
      rw [← hR] at hf hl8 HPN
      simp only [← hR] at *
      have HRR := Lib.hid hR
      have hl9 : 8 < (ofN R).length := by omega
      clear hR hl8
      gi_wp2
      exact fr_out HI.out HBT.out hW3 (by omega) (v := .slice A7 (ofN R).length c7) (u := .slice A5 (ofN P).length c5) ((HBT.out.block _ (by omega)).trans HX.out) (Nat.le_trans (Nat.le_of_not_lt hf) (by have := part_le b (by omega) l (m + 1); rw [HPN.out] at this; exact this))
  case done =>
    rintro D xs W hD hxs hI hK
    obtain ⟨v, v1, v2⟩ := hI.x
    rw [hxs, part_all] at v2
    have hfit := hI.fit
    rw [hxs, part_all] at hfit
    obtain ⟨A5, c5, e5, hc5, hr5⟩ := v2.open
    subst e5
    obtain ⟨R, hR⟩ : ∃ n, n = unb b l := ⟨_, rfl⟩
    rw [← hR] at v2 hfit hc5 v1
    obtain ⟨x1, x2⟩ := v1.cell
    have hz1 := hI.rx
    have hz2 := hI.re
    have q1 : W.cell? ⟨w.heap.size + 1, 0, none⟩ = some (.slice none 0 0) := cell_of_row W _ 0 _ _ _ hz1
    have q2 : W.frozen? ⟨w.heap.size + 1, 0, none⟩ = false := by simp [World.frozen?, show W.heap[w.heap.size + 1]? = _ from hz1]
    have q3 : W.cell? ⟨w.heap.size + 1 + 1, 0, none⟩ = some (.int .i64 0) := cell_of_row W _ 0 _ _ _ hz2
    have q4 : W.frozen? ⟨w.heap.size + 1 + 1, 0, none⟩ = false := by simp [World.frozen?, show W.heap[w.heap.size + 1 + 1]? = _ from hz2]
    have hDW : D < W.heap.size := (Array.getElem?_eq_some_iff.1 hK).1
    have HI := Lib.hid hI
    have HV := Lib.hid v2
    have HK := Lib.hid hK
    have HRR := Lib.hid hR
    have HZ1 := Lib.hid hz1
    have HZ2 := Lib.hid hz2
    clear hxs hI v2 hr5 hR v1 hK hz1 hz2
    gi_wp2
    have hK2 : ((W.setCell ⟨w.heap.size + 1, 0, none⟩ (.slice A5 (ofN R).length c5)).setCell ⟨w.heap.size + 1 + 1, 0, none⟩ (.int .i64 0)).heap[D]? = some (.deferred (some [])) := by
      rw [Below.heap_setCell _ _ _ _ (by show D ≠ w.heap.size + 1 + 1; omega), Below.heap_setCell _ _ _ _ (by show D ≠ w.heap.size + 1; omega)]
      exact HK.out
    have e1 : boxN ((W.setCell ⟨w.heap.size + 1, 0, none⟩ (.slice A5 (ofN R).length c5)).setCell ⟨w.heap.size + 1 + 1, 0, none⟩ (.int .i64 0)) (w.heap.size + 1) (.slice A5 (ofN R).length c5) := by
      rw [boxN, Below.heap_setCell _ _ _ _ (by show w.heap.size + 1 ≠ w.heap.size + 1 + 1; omega)]
      exact blk_set (cs := #[.slice none 0 0]) HZ1.out 0 _
    have e2 : boxE ((W.setCell ⟨w.heap.size + 1, 0, none⟩ (.slice A5 (ofN R).length c5)).setCell ⟨w.heap.size + 1 + 1, 0, none⟩ (.int .i64 0)) (w.heap.size + 1 + 1) (.int .i64 0) := by
      refine blk_set (cs := #[.int .i64 0]) ?_ 0 _
      rw [Below.heap_setCell _ _ _ _ (by show w.heap.size + 1 + 1 ≠ w.heap.size + 1; omega)]
      exact HZ2.out
    have hnb : ∀ k, (Value.slice A5 (ofN R).length c5).ownBlock = some k → k ≠ w.heap.size + 1 ∧ k ≠ w.heap.size + 1 + 1 := by
      intro k hk
      obtain ⟨_, cells, hc⟩ := nw_block HV.out k hk
      refine ⟨fun e => ?_, fun e => ?_⟩
      · subst e; rw [show W.heap[w.heap.size + 1]? = _ from HZ1.out] at hc; simp at hc
      · subst e; rw [show W.heap[w.heap.size + 1 + 1]? = _ from HZ2.out] at hc; simp at hc
    have hv2 : Nw ((W.setCell ⟨w.heap.size + 1, 0, none⟩ (.slice A5 (ofN R).length c5)).setCell ⟨w.heap.size + 1 + 1, 0, none⟩ (.int .i64 0)) w.heap.size (.slice A5 (ofN R).length c5) (ofN R) :=
      nw_grown (nw_grown HV.out (grownBy_setCell' _ _ _) (fun k e1 e2 => by injection e1 with e1; exact (hnb k e2.symm).1 e1.symm)) (grownBy_setCell' _ _ _) (fun k e1 e2 => by injection e1 with e1; exact (hnb k e2.symm).2 e1.symm)
    have hb2 : Below w.heap.size w ((W.setCell ⟨w.heap.size + 1, 0, none⟩ (.slice A5 (ofN R).length c5)).setCell ⟨w.heap.size + 1 + 1, 0, none⟩ (.int .i64 0)) :=
      (HI.out.below.setCell (p := ⟨w.heap.size + 1, 0, none⟩) (by show w.heap.size ≤ w.heap.size + 1; omega) _).setCell (p := ⟨w.heap.size + 1 + 1, 0, none⟩) (by show w.heap.size ≤ w.heap.size + 1 + 1; omega) _
    have hszW : D < ((W.setCell ⟨w.heap.size + 1, 0, none⟩ (.slice A5 (ofN R).length c5)).setCell ⟨w.heap.size + 1 + 1, 0, none⟩ (.int .i64 0)).heap.size := by simp; exact hDW
    generalize (W.setCell ⟨w.heap.size + 1, 0, none⟩ (.slice A5 (ofN R).length c5)).setCell ⟨w.heap.size + 1 + 1, 0, none⟩ (.int .i64 0) = W3 at *
    have hg3 := grownBy_putObj' W3 D (.deferred none)
    have f1 : (W3.putObj D (.deferred none)).cell? ⟨w.heap.size + 1, 0, none⟩ = some (.slice A5 (ofN R).length c5) := cell_of_row _ _ 0 _ _ _ (blk_grown e1 hg3 (fun e => by injection e with e; omega))
    have f2 : (W3.putObj D (.deferred none)).cell? ⟨w.heap.size + 1 + 1, 0, none⟩ = some (.int .i64 0) := cell_of_row _ _ 0 _ _ _ (blk_grown e2 hg3 (fun e => by injection e with e; omega))
    have ef : fromE b l = 0 ∧ fromL b l = ofN R := by unfold fromE fromL; rw [← HRR.out, if_pos hfit, if_pos hfit]; exact ⟨rfl, rfl⟩
    refine ⟨by simp, .inl ⟨_, _, rfl, run_takeDeferred hK2, ?_⟩⟩
    refine ⟨.tuple #[.slice A5 (ofN R).length c5, .int .i64 0], by simp [results, Tryz.results11, go_sem, f1, f2], .slice A5 (ofN R).length c5, ?_, ?_, ?_⟩
    · rw [ef.1]
    · rw [ef.2]
      exact nw_grown' (B := 0) hv2 hg3 (fun r e => by injection e with e; exact ⟨Nat.zero_le _, _, by rw [← e]; exact hK2, rfl⟩)
    · exact hb2.grown hg3 hb2.size (fun k e => by injection e with e; omega)
  case stop =>
    rintro D cc pre W hD _ ⟨rfl, hout⟩ hK
    have HO := Lib.hid hout
    have HK := Lib.hid hK
    clear hout hK
    gi_wp2
    have hg3 := grownBy_putObj' W D (.deferred none)
    have f1 : (W.putObj D (.deferred none)).cell? ⟨w.heap.size + 1, 0, none⟩ = some (.slice none 0 0) := cell_of_row _ _ 0 _ _ _ (blk_grown HO.out.rx hg3 (fun e => by injection e with e; omega))
    have f2 : (W.putObj D (.deferred none)).cell? ⟨w.heap.size + 1 + 1, 0, none⟩ = some (.int .i64 21) := cell_of_row _ _ 0 _ _ _ (blk_grown HO.out.re hg3 (fun e => by injection e with e; omega))
    have hnf : ¬ unb b l < B8 := Nat.not_lt_of_le HO.out.big
    have ef : fromE b l = 21 ∧ fromL b l = [] := by unfold fromE fromL; rw [if_neg hnf, if_neg hnf]; exact ⟨rfl, rfl⟩
    refine ⟨by simp, .inl ⟨_, _, rfl, run_takeDeferred HK.out, ?_⟩⟩
    refine ⟨.tuple #[.slice none 0 0, .int .i64 21], by simp [results, Tryz.results11, go_sem, f1, f2], .slice none 0 0, ?_, ?_, ?_⟩
    · rw [ef.1]
    · rw [ef.2]; exact Nw.nil _ _
    · exact HO.out.below.grown hg3 HO.out.below.size (fun k e => by injection e with e; omega)
end Go.Proofs.YtgdlkpfkaehebaaGreatDoor.Fr
