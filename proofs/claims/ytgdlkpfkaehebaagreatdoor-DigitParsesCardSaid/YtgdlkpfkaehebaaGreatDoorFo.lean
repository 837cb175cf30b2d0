/- digit.From: digits to a base put together again. -/
import Derived.Test.YtgdlkpfkaehebaaGreatDoorMu
import Derived.Test.YtgdlkpfkaehebaaGreatDoorIt
import Derived.Test.YtgdlkpfkaehebaaGreatDoorNp
import Derived.Shelf.RegionOpen
import Derived.OwnWalkIn
import Derived.TacticsInMore
import Derived.LoopNIn
import Derived.LoopIn
import Derived.RangeFuncLeaves
import Derived.RegionTactic
import Derived.RegionIn
set_option linter.unusedVariables false
namespace Go.Proofs.YtgdlkpfkaehebaaGreatDoor.Fo
open Go Go.RowKit Go.Proofs.YtgdlkpfkaehebaaGreatDoorW.PrintWords Go.Proofs.YtgdlkpfkaehebaaGreatDoorW.PrintLast Go.Proofs.YtgdlkpfkaehebaaGreatDoorW.PrintMore
open Nt Lm It Tk Bs Ad
attribute [local go_sem] Oper.semAt_some

theorem boxU.cell {W : World} {B : Nat} {v : Value} (h : boxU W B v) : W.cell? ⟨B, 0, none⟩ = some v ∧ W.frozen? ⟨B, 0, none⟩ = false := ⟨cell_of_row W B 0 _ _ _ h, by simp [World.frozen?, show W.heap[B]? = _ from h]⟩
set_option maxHeartbeats 1000000 in
theorem odd_call (d b bb : Nat) (w : World) (hb : boxU w bb (.int .u64 (b : Int))) (h : d < b) :
    Calls Tryz.prog 28 #[.int .u64 (d : Int), .pointer (some ⟨bb, 0, none⟩)] w fun e w' => e = .returned (.bool false) ∧ w = w' := by
  obtain ⟨c1, c2⟩ := Fo.boxU.cell hb
  have hd : decide (b ≤ d) = false := decide_eq_false (by omega)
  clear hb h
  go_enter Tryz.func28, Tryz.ntmps28
  go_wp2
  go_ret
  exact ⟨rfl, rfl⟩

set_option maxHeartbeats 2000000 in
set_option maxRecDepth 100000 in
theorem index_call (A : Option Addr) (c : Nat) (l : List Nat) (b bb : Nat) (w : World) (hr : Rw w A l) (hl : l.length ≤ 1000000) (hb : boxU w bb (.int .u64 (b : Int))) (hd : ∀ d ∈ l, d < b) :
    Calls Tryz.prog 54 #[.slice A l.length c, .func (.func 28) #[] #[.pointer (some ⟨bb, 0, none⟩)]] w fun e w' => e = .returned (.int .i64 (-1)) ∧ w = w' := by
  have HR := Lib.hid hr
  have HC := Lib.hid (fun d h => odd_call d b bb w hb h)
  have HD := Lib.hid hd
  clear hr hb hd
  go_enter Tryz.func54, Tryz.ntmps54
  go_wp2
  go_loop [8] (fun v => ∃ i : Nat, i ≤ l.length ∧ v = .int .i64 (i : Int)) (fun v => l.length - (intOf v).toNat)
  case atStart => exact ⟨0, by omega, rfl⟩
  case round =>
    obtain ⟨i, hi, rfl⟩ := hrel
    by_cases hil : i < l.length
    · obtain ⟨ad, e, hx⟩ := HR.out.at i hil
      cases e
      have hlt : atL l i < b := by
        unfold atL
        rw [List.getD_eq_getElem?_getD, List.getElem?_eq_getElem hil]
        exact HD.out _ (List.getElem_mem hil)
      have HCC := Lib.hid (HC.out _ hlt)
      obtain ⟨x, hx2⟩ : ∃ n, n = atL l i := ⟨_, rfl⟩
      rw [← hx2] at hx HCC
      have hib : (i : Int) < (l.length : Int) := by omega
      clear hlt hx2
      go_wp2_with (go_at_call 28; refine (HCC.out).mono ?_; rintro e w' ⟨rfl, rfl⟩)
      go_round
      case rel => exact ⟨i + 1, by omega, by go_num⟩
      case measure => simp [intOf]; omega
    · have hib : ¬ (i : Int) < (l.length : Int) := by omega
      go_wp2
      go_ret
      exact ⟨rfl, rfl⟩

set_option maxHeartbeats 2000000 in
theorem contains_call (A : Option Addr) (c : Nat) (l : List Nat) (b bb : Nat) (w : World) (hr : Rw w A l) (hl : l.length ≤ 1000000) (hb : boxU w bb (.int .u64 (b : Int))) (hd : ∀ d ∈ l, d < b) :
    Calls Tryz.prog 29 #[.slice A l.length c, .func (.func 28) #[] #[.pointer (some ⟨bb, 0, none⟩)]] w fun e w' => e = .returned (.bool false) ∧ w = w' := by
  have HC := Lib.hid (index_call A c l b bb w hr hl hb hd)
  clear hr hb hd
  go_enter Tryz.func29, Tryz.ntmps29
  go_wp2_with (go_at_call 54; refine (HC.out).mono ?_; rintro e w' ⟨rfl, rfl⟩)
  go_ret
  exact ⟨rfl, rfl⟩

set_option maxHeartbeats 1000000 in
theorem backward_call (A : Option Addr) (n c : Nat) (w : World) :
    Calls Tryz.prog 30 #[.slice A n c] w fun e w' => e = .returned (.func (.func 55) #[] #[.pointer (some ⟨w.heap.size, 0, none⟩)]) ∧ w' = w.alloc (.cells #[.slice A n c] 23) := by
  go_enter Tryz.func30, Tryz.ntmps30
  go_wp2
  go_ret
  exact ⟨rfl, rfl⟩

/-- what a body keeps that writes its box bx alone -/
structure KpX (bx : Nat) (W W' : World) : Prop where
  size : W.heap.size ≤ W'.heap.size
  same : ∀ (k : Nat) (o : Obj), k ≠ bx → W.heap[k]? = some o → o.isCells = true → W'.heap[k]? = some o
theorem KpX.trans {bx : Nat} {A B C : World} (h : KpX bx A B) (k : KpX bx B C) : KpX bx A C := ⟨Nat.le_trans h.size k.size, fun i o h1 h3 h4 => k.same i o h1 (h.same i o h1 h3 h4) h4⟩
theorem KpX.refl (bx : Nat) (W : World) : KpX bx W W := ⟨Nat.le_refl _, fun _ _ _ h _ => h⟩
theorem KpX.put {bx : Nat} (W : World) (l : Nat) (o o' : Obj) (ho : W.heap[l]? = some o) (hc : o.isCells = false) : KpX bx W (W.putObj l o') := by
  refine ⟨by simp [World.putObj], fun k o2 h1 h3 h4 => ?_⟩
  rw [World.putObj_heap_other (fun e => ?_)]
  · exact h3
  · subst e
    rw [ho] at h3
    cases h3
    rw [hc] at h4
    cases h4
def encB (x : Nat × Nat) : Array Value := #[.int .i64 (x.1 : Int), .int .u64 (x.2 : Int)]

set_option maxRecDepth 100000 in
set_option maxHeartbeats 4000000 in
theorem backward_iter (n : Nat) (hn : 1 ≤ n) (bs bx : Nat) (hne : bs ≠ bx) (A : Option Addr) (l : List Nat) (c : Nat) (w : World) (hl : l.length ≤ 1000) (hs : boxS w bs (.slice A l.length c)) (hr : Rw w A l) (hap : ∀ ad, A = some ad → 0 < l.length → ad.block ≠ bx) :
    SeqIter Fence.wide n Tryz.prog 55 #[.pointer (some ⟨bs, 0, none⟩)] encB (fun _ => False) (KpX bx) (fun pre x _ => pre.length < l.length ∧ x = (l.length - 1 - pre.length, atL l (l.length - 1 - pre.length))) (fun xs _ => xs.length = l.length) (fun _ _ => True) 1000 w := by
  intro lp J Jx W hW hJ _ hY h0
  have hs0 : boxS W bs (.slice A l.length c) := (hW.block bs (Array.getElem?_eq_some_iff.1 hs).1).trans hs
  have hr0 := hr.below hW
  clear hs hr
  refine callsIn_of_wp Tryz.func55 rfl trivial ?_ rfl
  simp only [Tryz.ntmps55, List.size_toArray, List.length_cons, List.length_nil, Nat.reduceAdd, Nat.reduceSub, Array.replicate_succ, Array.replicate_zero, List.push_toArray, List.append_toArray, List.nil_append, List.cons_append]
  obtain ⟨s1, s2⟩ := hs0.cell
  have HS0 := Lib.hid hs0
  have HR0 := Lib.hid hr0
  have hw0 : IntKind.i64.wrap ((l.length : Int) - 1) = (l.length : Int) - 1 := IntWalk.i64_in _ (by omega)
  clear hs0 hr0
  gi_wp2
  gi_loopw [3] (fun v wr => ∃ (j : Nat) (iv : Int) (pre : List (Nat × Nat)), v = .int .i64 iv ∧ iv + 1 = (j : Int) ∧ j + pre.length = l.length ∧ Hid (boxS wr bs (.slice A l.length c)) ∧ Hid (Rw wr A l) ∧ Hid (J pre wr)) (fun v _ => ((intOf v) + 1).toNat)
  case atStart => exact ⟨l.length, (l.length : Int) - 1, [], by first | rfl | (rw [hw0]), by omega, by simp, HS0, HR0, Lib.hid h0⟩
  case round =>
    obtain ⟨j, iv, pre, rfl, hiv, hj, hS, hR, hJ0⟩ := hrel
    clear hw0 s1 s2
    obtain ⟨s1, s2⟩ := hS.out.cell
    rcases j with _ | k
    · obtain rfl : iv = -1 := by omega
      have hjl : pre.length = l.length := by omega
      have HJL := Lib.hid hjl
      clear hjl hj hiv
      gi_wp2
      go_end0
      exact ⟨⟨_, rfl⟩, .inl ⟨pre, HJL.out, hJ0.out⟩⟩
    · obtain rfl : iv = (k : Int) := by omega
      obtain ⟨ad, e, hx⟩ := hR.out.at k (by omega)
      cases e
      obtain ⟨fn, tmps, assign, body, hy, hRn⟩ := hY pre (k, atL l k) wr hJ0.out (by omega) ⟨by omega, by rw [show l.length - 1 - pre.length = k by omega]⟩
      unfold encB at hy
      dsimp only at hy
      obtain ⟨x, hxx⟩ : ∃ n, n = atL l k := ⟨_, rfl⟩
      rw [← hxx] at hx hy
      have HXX := Lib.hid hxx
      have HJJ := Lib.hid hj
      have hkb : (k : Int) < (l.length : Int) := by omega
      clear hxx hj hiv
      gi_wp2
      refine hRn.mono ?_
      rintro e2 W3 (⟨rfl, hJ3, hk3⟩ | ⟨rfl, hJx3⟩)
      · have hs3 : Hid (boxS W3 bs (.slice (some ad) l.length c)) := Lib.hid (hk3.same bs _ hne hS.out rfl)
        have hr3 : Hid (Rw W3 (some ad) l) := Lib.hid (Rw_same hR.out (fun ad' e hp => by
          cases e
          obtain ⟨o, ho, hoc⟩ := Rw_cells hR.out hp
          rw [ho]
          exact hk3.same _ o (hap ad rfl hp) ho hoc))
        have hJ4 := Lib.hid hJ3
        clear hJ3 hk3
        gi_wp2
        go_roundw
        case rel => exact ⟨k, (k : Int) - 1, pre ++ [(k, atL l k)], by first | rfl | go_num, by omega, by rw [List.length_append]; have := HJJ.out; simp; omega, hs3, hr3, hJ4⟩
        case measure => simp [intOf]
      · gi_wp2
        refine bodyPost_ret (results_none rfl _ _ _) rfl ?_
        exact ⟨⟨_, rfl⟩, .inr ⟨_, trivial, hJx3⟩⟩
end Go.Proofs.YtgdlkpfkaehebaaGreatDoor.Fo
