/- digit.taken: the digits of a natural, handed on one by one; the iterator keeps what is left in a box of its own. -/
import Derived.Test.YtgdlkpfkaehebaaGreatDoorSm
import Derived.Test.YtgdlkpfkaehebaaGreatDoorIt
import Derived.Test.YtgdlkpfkaehebaaGreatDoorNp
import Derived.Shelf.RegionOpen
import Derived.OwnWalkIn
import Derived.TacticsInMore
import Derived.LoopNIn
import Derived.LoopIn
import Derived.RangeFuncLeaves
import Derived.RegionTactic
import Derived.RegionIn
import Derived.Deep.LoopGhost
set_option linter.unusedVariables false
namespace Go.Proofs.YtgdlkpfkaehebaaGreatDoor.Tk
open Go Go.RowKit Go.Proofs.YtgdlkpfkaehebaaGreatDoorW.PrintWords Go.Proofs.YtgdlkpfkaehebaaGreatDoorW.PrintLast Go.Proofs.YtgdlkpfkaehebaaGreatDoorW.PrintMore
open Nt Lm It
attribute [local go_sem] Oper.semAt_some

def encD (x : Nat) : Array Value := #[.int .u64 (x : Int)]
/-- the block of the row that a box holds -/
def rowAt (bl : Nat) (W : World) : Option Nat := match W.cell? ⟨bl, 0, none⟩ with
  | some v => v.ownBlock
  | none => none
theorem rowAt_same {bl : Nat} {W W' : World} (h : W'.heap[bl]? = W.heap[bl]?) : rowAt bl W' = rowAt bl W := by
  unfold rowAt
  rw [World.cell?_of_block (a := ⟨bl, 0, none⟩) h]
/-- what a body keeps that writes its box bl, and the row therein -/
structure KpT (bl : Nat) (W W' : World) : Prop where
  size : W.heap.size ≤ W'.heap.size
  same : ∀ (k : Nat) (o : Obj), k ≠ bl → some k ≠ rowAt bl W → W.heap[k]? = some o → o.isCells = true → W'.heap[k]? = some o
  row : ∀ r, rowAt bl W' = some r → rowAt bl W = some r ∨ (W.heap.size ≤ r ∧ r < W'.heap.size)
theorem KpT.trans {bl : Nat} {A B C : World} (h : KpT bl A B) (k : KpT bl B C) : KpT bl A C := by
  refine ⟨Nat.le_trans h.size k.size, fun i o h1 h2 h3 h4 => ?_, fun r hr => ?_⟩
  · refine k.same i o h1 (fun e => ?_) (h.same i o h1 h2 h3 h4) h4
    rcases h.row i e.symm with h5 | h5
    · exact h2 h5.symm
    · have := (Array.getElem?_eq_some_iff.1 h3).1; omega
  · rcases k.row r hr with h5 | ⟨h5, h6⟩
    · rcases h.row r h5 with h7 | ⟨h7, h8⟩
      · exact .inl h7
      · exact .inr ⟨h7, Nat.lt_of_lt_of_le h8 k.size⟩
    · exact .inr ⟨Nat.le_trans h.size h5, h6⟩
theorem KpT.refl (bl : Nat) (W : World) : KpT bl W W := ⟨Nat.le_refl _, fun _ _ _ _ h _ => h, fun _ h => .inl h⟩
/-- other objects may turn -/
theorem KpT.put {bl : Nat} (W : World) (l : Nat) (o o' : Obj) (hl : bl < l) (ho : W.heap[l]? = some o) (hc : o.isCells = false) : KpT bl W (W.putObj l o') := by
  have hb : (W.putObj l o').heap[bl]? = W.heap[bl]? := World.putObj_heap_other (by omega)
  refine ⟨by simp [World.putObj], fun k o2 h1 h2 h3 h4 => ?_, fun r hr => .inl (by rw [← rowAt_same hb]; exact hr)⟩
  rw [World.putObj_heap_other (fun e => ?_)]
  · exact h3
  · subst e
    rw [ho] at h3
    cases h3
    rw [hc] at h4
    cases h4
/-- a row is read wherever its block is the same -/
theorem Rw_same {W W' : World} {A : Option Addr} {l : List Nat} (h : Rw W A l) (hs : ∀ ad, A = some ad → 0 < l.length → W'.heap[ad.block]? = W.heap[ad.block]?) : Rw W' A l := by
  have h2 := Kd.reads_of_C (d := (0 : Int)) h
  refine Kd.C_of_reads (d := (0 : Int)) ⟨h2.1, h2.2.1, fun hn => ?_⟩
  obtain ⟨ad, e, hc⟩ := h2.2.2 hn
  refine ⟨ad, e, fun j hj => ?_⟩
  refine (World.cell?_of_block (a := ad.add j) ?_).trans (hc j hj)
  rw [add_block]
  exact hs ad e hn
theorem Rw_cells {W : World} {ad : Addr} {l : List Nat} (h : Rw W (some ad) l) (hl : 0 < l.length) : ∃ o : Obj, W.heap[ad.block]? = some o ∧ o.isCells = true := by
  obtain ⟨ad', e, hc⟩ := h.at 0 hl
  cases e
  obtain ⟨o, ho, hk⟩ := cells_of_cell hc
  rw [add_block] at ho
  exact ⟨o, ho, hk⟩
def boxN (W : World) (B : Nat) (v : Value) : Prop := W.heap[B]? = some (.cells #[v] 24 (0, 0))
def boxU (W : World) (B : Nat) (v : Value) : Prop := W.heap[B]? = some (.cells #[v] 31 (0, 0))

set_option maxHeartbeats 1000000 in
theorem taken_call (A : Option Addr) (n c b : Nat) (w : World) :
    Calls Tryz.prog 15 #[.slice A n c, .int .u64 (b : Int)] w fun e w' => e = .returned (.func (.func 35) #[] #[.pointer (some ⟨w.heap.size, 0, none⟩), .pointer (some ⟨w.heap.size + 1, 0, none⟩)]) ∧
      w' = (w.alloc (.cells #[.slice A n c] 24)).alloc (.cells #[.int .u64 (b : Int)] 31) := by
  go_enter Tryz.func15, Tryz.ntmps15
  go_wp2
  go_ret
  exact ⟨rfl, rfl⟩

/-- what the iterator knows between two digits -/
structure TkAt (b v bl ba bb : Nat) (J : List Nat → World → Prop) (pre : List Nat) (A : Option Addr) (l : List Nat) (c : Nat) (W : World) : Prop where
  left : digs b v = pre ++ digs b (val l)
  may : May l
  lim : Lim l
  cap : l.length ≤ c
  boxa : boxN W ba (.slice A l.length c)
  boxb : boxU W bb (.int .u64 (b : Int))
  row : Rw W A l
  apart : ∀ ad, A = some ad → 0 < l.length → ad.block ≠ bl ∧ ad.block ≠ ba ∧ some ad.block ≠ rowAt bl W
  blt : bl < W.heap.size
  own : ∀ r, rowAt bl W = some r → r < W.heap.size ∧ r ≠ ba ∧ r ≠ bb
  inv : J pre W
  fit : val l < 18446744073709551616 ^ 8

theorem val_fit {l : List Nat} (hm : May l) (hl : Lim l) : val l < 18446744073709551616 ^ 8 :=
  Nat.lt_of_lt_of_le (val_lt hl) (Nat.pow_le_pow_right (by decide) hm.1)

def TkM (b v bl ba bb : Nat) (J : List Nat → World → Prop) (W : World) (m : Nat) : Prop := ∃ pre A l c, m = (digs b (val l)).length ∧ TkAt b v bl ba bb J pre A l c W
noncomputable def tkMea (b v bl ba bb : Nat) (J : List Nat → World → Prop) (W : World) : Nat := leastOf (TkM b v bl ba bb J W)

set_option maxRecDepth 100000 in
set_option maxHeartbeats 4000000 in
theorem taken1_in (n : Nat) (hn : 1 ≤ n) (lp b v bl ba bb : Nat) (hb2 : 2 ≤ b) (hb64 : b < 18446744073709551616) (hne : bl ≠ ba ∧ bl ≠ bb ∧ ba ≠ bb) (J Jx : List Nat → World → Prop) (W : World) (hJ : AbidesT (fun k => k = ba) W.heap.size J)
    (hY : ∀ pre x W1, J pre W1 → pre.length < 1000 → (∃ s, digs b v = pre ++ x :: s) → YieldAt Fence.wide (n - 1) Tryz.prog lp (encD x) W1 fun e W' =>
      (e = .returned (.bool true) ∧ J (pre ++ [x]) W' ∧ KpT bl W1 W') ∨ (e = .returned (.bool false) ∧ Jx (pre ++ [x]) W'))
    (hv : v < 18446744073709551616 ^ 8) (A : Option Addr) (l : List Nat) (c : Nat) (h0 : TkAt b v bl ba bb J [] A l c W) :
    CallsIn Fence.wide n Tryz.prog 35 #[.func (.yield lp) #[] #[], .pointer (some ⟨ba, 0, none⟩), .pointer (some ⟨bb, 0, none⟩)] W fun e W' => (∃ v, e = .returned v) ∧
      ((∃ ys, ys = digs b v ∧ J ys W') ∨ (∃ pre, True ∧ Jx pre W')) := by
  refine callsIn_of_wp Tryz.func35 rfl trivial ?_ rfl
  simp only [Tryz.ntmps35, List.size_toArray, List.length_cons, List.length_nil, Nat.reduceAdd, Nat.reduceSub, Array.replicate_succ, Array.replicate_zero, List.push_toArray, List.append_toArray, List.nil_append, List.cons_append]
  gi_wp2
  gi_loopw [4, 5, 6] (fun _ _ _ wr => ∃ m, Hid (TkM b v bl ba bb J wr m)) (fun _ _ _ wr => tkMea b v bl ba bb J wr)
  case atStart => exact ⟨_, Lib.hid ⟨[], A, l, c, rfl, h0⟩⟩
  case round =>
    clear h0
    obtain ⟨m0, hm0⟩ := hrel
    obtain ⟨⟨pre, A, l, c, hm, ht⟩, -⟩ := leastOf_spec (p := TkM b v bl ba bb J wr) ⟨m0, hm0.out⟩
    have HM : Hid (tkMea b v bl ba bb J wr = (digs b (val l)).length) := Lib.hid hm
    clear hm hm0
    have ca := ht.boxa
    have cb := ht.boxb
    have ca1 : wr.cell? ⟨ba, 0, none⟩ = some (.slice A l.length c) := cell_of_row wr ba 0 _ _ _ ca
    have cb1 : wr.cell? ⟨bb, 0, none⟩ = some (.int .u64 (b : Int)) := cell_of_row wr bb 0 _ _ _ cb
    have hla : ba < wr.heap.size := (Array.getElem?_eq_some_iff.1 ca).1
    have hlb : bb < wr.heap.size := (Array.getElem?_eq_some_iff.1 cb).1
    have fa1 : wr.frozen? ⟨ba, 0, none⟩ = false := by simp [World.frozen?, show wr.heap[ba]? = _ from ca]
    clear ca cb
    by_cases h0 : l.length = 0
    · obtain rfl : l = [] := List.eq_nil_of_length_eq_zero h0
      have hd := ht.left
      rw [show val [] = 0 from rfl, digs_zero, List.append_nil] at hd
      have HD := Lib.hid hd
      clear hd
      gi_wp2
      go_end0
      exact ⟨⟨_, rfl⟩, .inl ⟨pre, HD.out.symm, ht.inv⟩⟩
    · have hpos : 0 < l.length := by omega
      have hvpos : 0 < val l := by
        rcases Nat.eq_zero_or_pos (val l) with h1 | h1
        · have h2 := val_zero_trim h1
          rw [ht.may.2] at h2
          rw [h2] at hpos
          simp at hpos
        · exact h1
      have hdp := digs_pos hb2 hvpos
      have hfit := ht.fit
      have HC := Lib.hid (fun w hr => Sm.small_call A c l b w hr ht.may ht.lim (by omega) hb64)
      have hr8 := ht.may.1
      obtain ⟨r, hr⟩ : ∃ x, x = val l % b := ⟨_, rfl⟩
      rw [← hr] at HC hdp
      have HDP := Lib.hid hdp
      clear hdp hvpos hr hfit h0
      gi_wp2_with fail
      refine ⟨trivial, ?_⟩
      refine (callsIn_wide.2 (HC.out wr ht.row)).mono ?_
      rintro e1 w1 ⟨v1, rfl, hv1, hb1⟩
      obtain ⟨l1, hl1⟩ : ∃ x, x = ofN (val l / b) := ⟨_, rfl⟩
      rw [← hl1] at hv1
      have hv1v : val l1 = val l / b := by rw [hl1, val_ofN]
      have hm1 : May l1 ∧ Lim l1 ∧ val l1 < 18446744073709551616 ^ 8 := by
        have hlt : val l / b < 18446744073709551616 ^ 8 := Nat.lt_of_le_of_lt (Nat.div_le_self _ _) ht.fit
        exact ⟨by rw [hl1]; exact ofN_may hlt, by rw [hl1]; exact ofN_lim _, by rw [hv1v]; exact hlt⟩
      obtain ⟨A1, c1, rfl, hc1, hr1⟩ := hv1.open
      have ca2 := (hb1.cell (p := ⟨ba, 0, none⟩) hla).trans ca1
      have fa2 := (hb1.frozen (p := ⟨ba, 0, none⟩) hla).trans fa1
      obtain ⟨W2, hW2⟩ : ∃ W2, W2 = w1.setCell ⟨ba, 0, none⟩ (.slice A1 l1.length c1) := ⟨_, rfl⟩
      have hg2 : w1.grownBy W2 (some ba) := by rw [hW2]; exact grownBy_setCell' _ _ _
      have hJ2 : J pre W2 := hJ pre _ _ _ (hJ pre _ _ none ht.inv (grown_of_below hb1 none) (fun r e => by cases e)) hg2 (fun r e => by cases e; exact .inl rfl)
      have hs1 := hb1.size
      have hs2 := hg2.size
      have hblock : ∀ k, k < wr.heap.size → k ≠ ba → W2.heap[k]? = wr.heap[k]? := fun k hk hka => (hg2.block k (by omega) (fun e => by injection e with e; exact hka e)).trans (hb1.block k hk)
      have hrow2 : rowAt bl W2 = rowAt bl wr := rowAt_same (hblock bl ht.blt hne.1)
      have hNEW : ∀ W3, KpT bl W2 W3 → J (pre ++ [r]) W3 → TkAt b v bl ba bb J (pre ++ [r]) A1 l1 c1 W3 := by
        intro W3 hk hj
        have hown2 : ∀ q, rowAt bl W2 = some q → q < wr.heap.size ∧ q ≠ ba ∧ q ≠ bb := fun q hq => ht.own q (by rw [← hrow2]; exact hq)
        refine ⟨?_, hm1.1, hm1.2.1, hc1, ?_, ?_, ?_, ?_, ?_, ?_, hj, hm1.2.2⟩
        · rw [ht.left, HDP.out, hv1v, List.append_assoc]; rfl
        · refine hk.same ba _ (fun e => hne.1 e.symm) (fun e => (hown2 ba e.symm).2.1 rfl) ?_ rfl
          rw [hW2]
          have := (hb1.block ba hla).trans ht.boxa
          exact blk_set this 0 _
        · refine hk.same bb _ (fun e => hne.2.1 e.symm) (fun e => (hown2 bb e.symm).2.2 rfl) ?_ rfl
          exact (hblock bb hlb (fun e => hne.2.2 e.symm)).trans ht.boxb
        · refine Rw_same hr1 fun ad e hp => ?_
          subst e
          obtain ⟨g, cap, e2, hg, hgw⟩ := hv1.form hp
          injection e2 with e3 e4 e5
          injection e3 with e3
          subst e3
          obtain ⟨o, ho, hoc⟩ := Rw_cells hr1 hp
          have h2 : W2.heap[g]? = some o := (hg2.block g hgw (fun e => by injection e with e; omega)).trans ho
          rw [ho]
          exact hk.same g o (by have := ht.blt; omega) (fun e => by have := (hown2 g e.symm).1; omega) h2 hoc
        · intro ad e hp
          subst e
          obtain ⟨g, cap, e2, hg, hgw⟩ := hv1.form hp
          injection e2 with e3 e4 e5
          injection e3 with e3
          subst e3
          refine ⟨by have := ht.blt; show g ≠ bl; omega, by show g ≠ ba; omega, fun e => ?_⟩
          rcases hk.row g e.symm with h3 | ⟨h3, h4⟩
          · have := (hown2 g h3).1; omega
          · omega
        · have := hk.size; have := ht.blt; omega
        · intro q hq
          rcases hk.row q hq with h3 | ⟨h3, h4⟩
          · have h5 := hown2 q h3
            have := hk.size
            exact ⟨by omega, h5.2⟩
          · exact ⟨h4, by omega, by omega⟩
      have HNEW := Lib.hid hNEW
      have hpl : pre.length < 1000 := by
        have h1 := congrArg List.length ht.left
        rw [List.length_append] at h1
        have := digsb_len hb2 hv
        omega
      obtain ⟨fn, tmps, assign, body, hy, hRn⟩ := hY pre r W2 hJ2 hpl ⟨digs b (val l / b), by rw [ht.left, HDP.out]⟩
      unfold encD at hy
      have HV1V := Lib.hid hv1v
      rw [hW2] at hy hRn hNEW
      clear hv1v hl1 hblock hrow2 hg2 hJ2 hNEW hm1 hs1 hs2 hpl
      gi_wp2
      refine hRn.mono ?_
      rintro e2 W3 (⟨rfl, hJ3, hk3⟩ | ⟨rfl, hJx3⟩)
      · have hat := HNEW.out W3 (by rw [hW2]; exact hk3) hJ3
        have hdl : (digs b (val l1)).length < (digs b (val l)).length := by rw [HV1V.out, HDP.out]; simp
        have HAT := Lib.hid hat
        have HDL := Lib.hid hdl
        clear hat hdl hk3 hJ3
        gi_wp2
        go_roundw
        case rel => exact ⟨_, Lib.hid ⟨_, _, _, _, rfl, HAT.out⟩⟩
        case measure =>
          show tkMea b v bl ba bb J W3 < tkMea b v bl ba bb J wr
          rw [HM.out]
          refine Nat.lt_of_le_of_lt ?_ HDL.out
          exact (leastOf_spec (p := TkM b v bl ba bb J W3) ⟨_, ⟨_, _, _, _, rfl, HAT.out⟩⟩).2 _ ⟨_, _, _, _, rfl, HAT.out⟩
      · gi_wp2
        refine bodyPost_ret (results_none rfl _ _ _) rfl ?_
        exact ⟨⟨_, rfl⟩, .inr ⟨_, trivial, hJx3⟩⟩

theorem taken_iter (n : Nat) (hn : 1 ≤ n) (b v bl ba bb : Nat) (hb2 : 2 ≤ b) (hb64 : b < 18446744073709551616) (hne : bl ≠ ba ∧ bl ≠ bb ∧ ba ≠ bb) (A : Option Addr) (l : List Nat) (c : Nat) (w : World)
    (hv : v = val l) (hm : May l) (hl : Lim l) (hc : l.length ≤ c) (ha : boxN w ba (.slice A l.length c)) (hb : boxU w bb (.int .u64 (b : Int))) (hr : Rw w A l)
    (hap : ∀ ad, A = some ad → 0 < l.length → ad.block ≠ bl ∧ ad.block ≠ ba) (hbl : bl < w.heap.size) (hrow : rowAt bl w = none) :
    SeqIter Fence.wide n Tryz.prog 35 #[.pointer (some ⟨ba, 0, none⟩), .pointer (some ⟨bb, 0, none⟩)] encD (fun k => k = ba) (KpT bl) (fun pre x _ => ∃ s, digs b v = pre ++ x :: s) (fun xs _ => xs = digs b v) (fun _ _ => True) 1000 w := fun lp J Jx W hW hJ _ hY h0 => by
  subst hv
  have hrW : rowAt bl W = none := (rowAt_same (hW.block bl hbl)).trans hrow
  exact taken1_in n hn lp b (val l) bl ba bb hb2 hb64 hne J Jx W hJ hY (val_fit hm hl) A l c
    ⟨rfl, hm, hl, hc, (hW.block ba (Array.getElem?_eq_some_iff.1 ha).1).trans ha, (hW.block bb (Array.getElem?_eq_some_iff.1 hb).1).trans hb, hr.below hW, fun ad e hp => ⟨(hap ad e hp).1, (hap ad e hp).2, by rw [hrW]; simp⟩,
      Nat.lt_of_lt_of_le hbl hW.size, (fun r e => by rw [hrW] at e; cases e), h0, val_fit hm hl⟩
end Go.Proofs.YtgdlkpfkaehebaaGreatDoor.Tk
