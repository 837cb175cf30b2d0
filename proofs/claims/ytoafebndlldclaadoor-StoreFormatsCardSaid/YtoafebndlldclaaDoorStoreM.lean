/- A store in memory; the calls of Format, Epoch, Append, Compact and Open are proved: they do what formatS, appendS, compactS and openS do. -/
import Derived.Test.YtoafebndlldclaaDoorStoreB
import Derived.Test.YtoafebndlldclaaDoorAppTx
import Derived.Deep.QuietTactic
import Derived.StillTail
import Derived.StillTactics
import Derived.BigRegion
import Derived.Deep.Onto
namespace Go.Proofs.YtoafebndlldclaaDoor.St
open Go Go.RowKit Go.Shelf Dk Fr Wl Go.Proofs.YtoafebndlldclaaDoorW.PrintWords Go.Proofs.YtoafebndlldclaaDoorW.PrintLast

def IsStore (W : World) (sb b : Nat) (p : Option Addr) (S : SS) : Prop := W.heap[sb]? = some (.cells #[.pointer p, .pointer (some ⟨b, 0, none⟩), .int .u64 S.ep, .int .i64 S.slot, .bool S.over] 55 (0, 0))
def StoreAt (W : World) (base b : Nat) (p : Option Addr) : Option SS → Prop
  | none => p = none
  | some S => ∃ sb lb, p = some ⟨sb, 0, none⟩ ∧ base ≤ sb ∧ base ≤ lb ∧ sb ≠ lb ∧ IsStore W sb b (some ⟨lb, 0, none⟩) S ∧ IsLog W lb b S.L

theorem openL_zero {D : DS} {fr to_ : Int} {ep : Nat} (h : (openL D fr to_ ep).2.2.2 = 0) : ∃ L, (openL D fr to_ ep).2.1 = some L := by
  unfold openL at h ⊢
  split at h
  · simp at h
  · split at h
    · simp at h
    · rename_i h1 h2
      rw [if_neg h1, if_neg h2]
      unfold openAt at h ⊢
      split at h
      · simp at h
      · rename_i h3
        rw [if_neg h3]
        exact ⟨_, rfl⟩
theorem putS_zero {D : DS} {slot ep : Nat} {text : Bs} (h : (putS D slot ep text).2.2 = 0) : ∃ L, (putS D slot ep text).2.1 = some L := by
  unfold putS at h ⊢
  split at h
  · simp at h
  · split at h
    · simp at h
    · split at h
      · simp at h
      · rename_i h1 h2 h3
        rw [if_neg h1, if_neg h2, if_neg h3]
        exact openL_zero h

variable {w : World} {b g bm : Nat} {D : DS}
set_option maxRecDepth 100000 in
set_option maxHeartbeats 4000000 in
theorem format_call (h : IsDisk w b g bm D) (text : Bs) (ht : text.length ≤ 4611686018427387904) (R : DS × Option SS × Int) (hR : formatS D text = R) :
    Calls Tryd.prog 22 #[.pointer (some ⟨b, 0, none⟩), .string ⟨text.toArray⟩] w fun e w' => ∃ p : Option Addr, e = .returned (.tuple #[.pointer p, .int .i64 R.2.2]) ∧ IsDisk w' b g bm R.1 ∧ Kp (Foot b g bm) w w' ∧ StoreAt w' w.heap.size b p R.2.1 := by
  have HD := Lib.hid (held_call h)
  have HH := Lib.hid h
  unfold formatS at hR
  by_cases h0 : heldD D = 0
  · rw [if_neg (by simpa using h0)] at hR
    have hup : D.off = false := by
      unfold heldD at h0
      split at h0
      · simp at h0
      · split at h0
        · simp at h0
        · rename_i hx; simpa using hx
    have hdd := HD.out
    rw [h0] at hdd
    have HDD := Lib.hid hdd
    have hfo := fun W (hb : Below w.heap.size w W) => found_call (h.below hb) hup
    obtain ⟨⟨f1, f2, f3⟩, hf⟩ : ∃ x, foundD D = x := ⟨_, rfl⟩
    rw [hf] at hfo hR
    have HFO := Lib.hid hfo
    clear HD h hdd hfo h0 hup
    by_cases ha : 0 ≤ f3
    · rw [if_pos ha] at hR
      subst hR
      go_enter Tryd.func22, Tryd.ntmps22
      go_wp2_with fail
      refine HDD.out.mono ?_
      rintro e w1 ⟨rfl, hb1⟩
      have HB1 := Lib.hid hb1
      clear hb1
      go_wp2_with fail
      refine (HFO.out _ HB1.out).mono ?_
      rintro e w2 ⟨rfl, hb2⟩
      have HB2 := Lib.hid (HB1.out.trans (hb2.mono HB1.out.size))
      clear hb2
      go_wp2
      go_ret2
      have hb := HB2.out.alloc HB2.out.size (.cells #[.int .u64 f1, .int .u64 f1, .string ⟨f2.toArray⟩] 100)
      exact ⟨none, rfl, HH.out.below hb, .of_below hb, rfl⟩
    · rw [if_neg ha] at hR
      obtain ⟨⟨D2, o2, x2⟩, hP⟩ : ∃ P, putS D 0 1 text = P := ⟨_, rfl⟩
      have hpz := @putS_zero D 0 1 text
      rw [hP] at hR hpz
      have hpu := fun W (hb : Below w.heap.size w W) => put_st (HH.out.below hb) 0 1 text (by omega) (by omega) ht
      rw [hP] at hpu
      have HPU := Lib.hid hpu
      have HPZ := Lib.hid hpz
      have HR := Lib.hid hR
      clear hpz hpu hP hR
      go_enter Tryd.func22, Tryd.ntmps22
      go_wp2_with fail
      refine HDD.out.mono ?_
      rintro e w1 ⟨rfl, hb1⟩
      have HB1 := Lib.hid hb1
      clear hb1
      go_wp2_with fail
      refine (HFO.out _ HB1.out).mono ?_
      rintro e w2 ⟨rfl, hb2⟩
      have HB2 := Lib.hid ((HB1.out.trans (hb2.mono HB1.out.size)).alloc (Nat.le_trans HB1.out.size hb2.size) (.cells #[.int .u64 f1, .int .u64 f1, .string ⟨f2.toArray⟩] 100))
      clear hb2
      go_wp2_with fail
      refine (HPU.out _ HB2.out).mono ?_
      rintro e w4 ⟨p, rfl, h4, k4, l4⟩
      have H4 := Lib.hid h4
      have K4 := Lib.hid ((Kp.of_below HB2.out).trans k4)
      have L4 := Lib.hid (LogAt.mono l4 HB2.out.size)
      clear h4 k4 l4
      by_cases hx : x2 = 0
      · subst hx
        obtain ⟨L, ho⟩ := HPZ.out rfl
        have ho : o2 = some L := ho
        subst ho
        obtain ⟨lb, rfl, hlb, hil⟩ := L4.out
        go_wp2
        go_ret2
        have hr := HR.out
        rw [if_neg (by simp)] at hr
        subst hr
        refine ⟨_, rfl, H4.out.alloc _, K4.out.alloc _, ?_⟩
        exact ⟨w4.heap.size, lb, rfl, K4.out.size, hlb, fun e => by have := hil.lt; omega, World.alloc_heap_new w4 _, hil.below ((Below.refl _ w4).alloc (Nat.le_refl _) _) hil.lt⟩
      · have hte : (x2 != 0) = true := by rw [bne_iff_ne]; exact hx
        go_wp2
        go_ret2
        have hr := HR.out
        rw [if_pos hx] at hr
        subst hr
        exact ⟨none, rfl, H4.out, K4.out, rfl⟩
  · rw [if_pos (by simpa using h0)] at hR
    subst hR
    have hte : (heldD D != 0) = true := by rw [bne_iff_ne]; exact h0
    clear h
    go_enter Tryd.func22, Tryd.ntmps22
    go_wp2_with fail
    refine HD.out.mono ?_
    rintro e w1 ⟨rfl, hb1⟩
    go_wp2
    go_ret2
    exact ⟨none, rfl, HH.out.below hb1, .of_below hb1, rfl⟩

/-- a store in memory on a disk of the call's own -/
structure StoreOn (W w : World) (b g bm sb lb : Nat) (D : DS) (S : SS) : Prop where
  log : LogOn W w b g bm lb D S.L
  st : IsStore w sb b (some ⟨lb, 0, none⟩) S
  hsb : W.heap.size ≤ sb
  nf : ¬ FootL b g bm lb sb
section
variable {W w w' : World} {sb lb : Nat} {S : SS}
theorem IsStore.lt {p : Option Addr} (h : IsStore w sb b p S) : sb < w.heap.size := (Array.getElem?_eq_some_iff.1 h).1
theorem StoreOn.below (h : StoreOn W w b g bm sb lb D S) (hk : Below w.heap.size w w') : StoreOn W w' b g bm sb lb D S := ⟨h.log.below hk, (hk.block _ h.st.lt).trans h.st, h.hsb, h.nf⟩
theorem StoreOn.alloc (h : StoreOn W w b g bm sb lb D S) (o : Obj) : StoreOn W (w.alloc o) b g bm sb lb D S := h.below ((Below.refl _ w).alloc (Nat.le_refl _) o)

set_option maxRecDepth 100000 in
set_option maxHeartbeats 1000000 in
theorem StoreOn.epoch (h : StoreOn W w b g bm sb lb D S) : Calls Tryd.prog 33 #[.pointer (some ⟨sb, 0, none⟩)] w fun e w' => e = .returned (.int .u64 S.ep) ∧ w = w' := by
  have c2 : w.cell? ⟨sb, 2, none⟩ = some (.int .u64 S.ep) := cell_of_row w sb 2 _ _ _ h.st
  clear h
  go_enter Tryd.func33, Tryd.ntmps33
  go_wp2
  go_ret
  exact ⟨rfl, rfl⟩
end
end Go.Proofs.YtoafebndlldclaaDoor.St

namespace Go.Proofs.YtoafebndlldclaaDoor.St
open Go Go.RowKit Go.Shelf Dk Fr Wl Go.Proofs.YtoafebndlldclaaDoorW.PrintWords Go.Proofs.YtoafebndlldclaaDoorW.PrintLast
variable {W w w' : World} {b g bm sb lb : Nat} {D : DS} {S : SS}

def FootS (b g bm lb sb k : Nat) : Prop := FootL b g bm lb k ∨ k = sb
theorem grown_set (w : World) (sb j : Nat) (u : Value) : w.grownBy (w.setCell ⟨sb, j, none⟩ u) (some sb) :=
  ⟨rfl, rfl, rfl, by simp [World.setCell], fun k _ hs => Below.heap_setCell _ _ _ _ (fun e => hs (congrArg some e))⟩
theorem StoreOn.setOver (h : StoreOn W w b g bm sb lb D S) (x : Bool) : StoreOn W (w.setCell ⟨sb, 4, none⟩ (.bool x)) b g bm sb lb D { S with over := x } := by
  refine ⟨h.log.grown (grown_set w sb 4 _) (fun k e => by cases e; exact ⟨h.hsb, h.nf⟩), ?_, h.hsb, h.nf⟩
  have := heap_setCell_same w sb 4 _ _ (.bool x) h.st
  unfold IsStore
  simpa using this
theorem StoreOn.setLog {L : LS} {D' : DS} (h : StoreOn W w b g bm sb lb D S) (hl : LogOn W w' b g bm lb D' L) (hk : Kp (FootL b g bm lb) w w') : StoreOn W w' b g bm sb lb D' { S with L := L } :=
  ⟨hl, (hk.block sb h.st.lt h.nf).trans h.st, h.hsb, h.nf⟩

set_option maxRecDepth 100000 in
set_option maxHeartbeats 2000000 in
theorem StoreOn.append (h : StoreOn W w b g bm sb lb D S) (hs : Sane D.olds.length S.L) (v : Value) (texts : List Bs) (ht : RowT w v texts) (hn : texts.length ≤ 1000) {D' : DS} {S' : SS} {x : Int} (hR : appendS D S texts = (D', S', x)) :
    Calls Tryd.prog 24 #[.pointer (some ⟨sb, 0, none⟩), v] w fun e w' => e = .returned (.int .i64 x) ∧ StoreOn W w' b g bm sb lb D' S' ∧ Kp (FootS b g bm lb sb) w w' := by
  have c0 : w.cell? ⟨sb, 0, none⟩ = some (.pointer (some ⟨lb, 0, none⟩)) := cell_of_row w sb 0 _ _ _ h.st
  have c4 : w.cell? ⟨sb, 4, none⟩ = some (.bool S.over) := cell_of_row w sb 4 _ _ _ h.st
  have HST := Lib.hid h
  unfold appendS at hR
  by_cases ho : S.over = true
  · rw [if_pos ho] at hR
    obtain ⟨rfl, hR2⟩ := Prod.mk.inj hR
    obtain ⟨rfl, rfl⟩ := Prod.mk.inj hR2
    rw [ho] at c4
    clear h hR hR2 ht
    go_enter Tryd.func24, Tryd.ntmps24
    go_wp2
    go_ret
    exact ⟨rfl, HST.out, Kp.refl _ _⟩
  · rw [if_neg ho] at hR
    have ho2 : S.over = false := by simpa using ho
    rw [ho2] at c4
    obtain ⟨⟨D2, L2, x2⟩, hA⟩ : ∃ x, appendL D S.L texts = x := ⟨_, rfl⟩
    rw [hA] at hR
    obtain ⟨rfl, hR2⟩ := Prod.mk.inj hR
    obtain ⟨rfl, rfl⟩ := Prod.mk.inj hR2
    have HAP := Lib.hid (h.log.append hs v texts ht hn hA)
    clear h hR hR2 ht hA ho ho2
    go_enter Tryd.func24, Tryd.ntmps24
    go_wp2_with fail
    refine HAP.out.mono ?_
    rintro e w2 ⟨rfl, h2, k2⟩
    have hs2 := HST.out.setLog h2 k2
    have d4 : w2.cell? ⟨sb, 4, none⟩ = some (.bool S.over) := cell_of_row w2 sb 4 _ _ _ hs2.st
    have f4 : w2.frozen? ⟨sb, 4, none⟩ = false := frozen_of_row w2 sb 4 _ _ hs2.st
    have HS2 := Lib.hid hs2
    have K2 := Lib.hid (k2.mono (S' := FootS b g bm lb sb) fun _ h => .inl h)
    clear hs2 h2 k2 c0 c4
    go_wp2
    go_ret
    exact ⟨rfl, HS2.out.setOver _, K2.out.setCell (p := ⟨sb, 4, none⟩) (.inr rfl) _⟩
end Go.Proofs.YtoafebndlldclaaDoor.St

namespace Go.Proofs.YtoafebndlldclaaDoor
open Go

section
variable {P : Program} {ops : Array Oper} {md : Region.Mode} {C : World → Prop}

def awaitsB (md : Region.Mode) (ops : Array Oper) (n : Nat) : Bool :=
  (List.range ops.size).all fun t => decide (t ≤ n) || (List.range t).any fun s => decide (n ≤ s) && Region.waitsFor md ops t s

theorem tail_waitsM {n : Nat} {listed : Array Bool} (hs : Region.sinkB md ops n = true) (hc : awaitsB md ops n = true) (inv : HeadInv md ops n listed) :
    ∀ (d i : Nat), n - i = d → i < n → listed.getD i true = false → ∀ t, n ≤ t → t ∉ Region.ready md ops listed := by
  intro d
  induction d using Nat.strongRecOn with
  | _ d ih =>
    intro i hd hi hun t ht hr
    obtain ⟨_, ot, hot, hall⟩ := mem_ready.1 hr
    have htlt : t < ops.size := (Array.getElem?_eq_some_iff.1 hot).1
    by_cases htn : t = n
    · subst htn
      have h1 := List.all_eq_true.1 hs i (List.mem_range.2 hi)
      obtain ⟨j, hj, hj2⟩ := List.any_eq_true.1 h1
      simp only [Bool.and_eq_true, decide_eq_true_eq] at hj2
      obtain ⟨oj, hoj, e, he, hb, hon⟩ := Region.waitsFor_spec hj2.2
      have hjle : j ≤ t := by have := List.mem_range.1 hj; omega
      by_cases hjt : j = t
      · subst hjt
        have : oj = ot := Option.some.inj (hoj.symm.trans hot)
        subst this
        have h2 := hall e he hb
        rw [hon, getD_both hun] at h2
        cases h2
      · cases hl : listed.getD j false with
        | true =>
          have h2 := inv.closed j oj hoj hl e he hb
          rw [hon, getD_both hun] at h2
          cases h2
        | false =>
          have hjs : j < listed.size := by rw [inv.size]; omega
          exact ih (t - j) (by omega) j rfl (by omega) (getD_in hjs hl) t (Nat.le_refl _) hr
    · have h1 := List.all_eq_true.1 hc t (List.mem_range.2 htlt)
      simp only [Bool.or_eq_true, decide_eq_true_eq] at h1
      rcases h1 with h1 | h1
      · omega
      · obtain ⟨s, hs1, hs2⟩ := List.any_eq_true.1 h1
        simp only [Bool.and_eq_true, decide_eq_true_eq] at hs2
        have hst := List.mem_range.1 hs1
        obtain ⟨o', ho', e, he, hb, hon⟩ := Region.waitsFor_spec hs2.2
        have : o' = ot := Option.some.inj (ho'.symm.trans hot)
        subst this
        have h2 := hall e he hb
        rw [hon, getD_both (inv.tail s hs2.1 (by omega))] at h2
        cases h2

def wpAnyM (P : Program) (md : Region.Mode) (ops : Array Oper) (C : World → Prop) (n : Nat) (L : Array Bool → Act → Prop) : Nat → Array Bool → Act → Prop
  | 0, listed, a => L listed a
  | f + 1, listed, a =>
    Region.ready md ops listed ≠ [] ∧ ∀ i ∈ Region.ready md ops listed, i < n ∧ qOp P ops C i (wpAnyM P md ops C n L f (listed.setIfInBounds i true)) a

theorem wpAny_of_mid {n g : Nat} {L : Array Bool → Act → Prop} {Q' : Exit → Act → World → Prop} (hL : ∀ listed a w, C w → L listed a → wpAny P md ops Q' g listed a w) :
    ∀ (f : Nat) (listed : Array Bool) (a : Act) (w : World), C w → wpAnyM P md ops C n L f listed a → wpAny P md ops Q' (f + g) listed a w
  | 0, listed, a, w, hw, h => by rw [Nat.zero_add]; exact hL _ _ _ hw h
  | f + 1, listed, a, w, hw, h => by
    rw [show f + 1 + g = (f + g) + 1 by omega]
    exact ⟨fun h0 => absurd h0 h.1, fun i hi => wpOp_of_qOp hw (fun a' w' hw' h' => wpAny_of_mid hL f _ a' w' hw' h') (h.2 i hi).2⟩

theorem wpAnyM_first {n i : Nat} {oi : Oper} {v : Value} {L : Array Bool → Act → Prop} (hi : ops[i]? = some oi) (hsel : ∀ (j : Nat) (o : Oper) cs b, ops[j]? = some o → o.op ≠ .select cs b)
    (hs : Region.sinkB md ops n = true) (hc : awaitsB md ops n = true) (hin : i < n)
    (hdone : ∀ listed a, L listed a → ∀ j ∈ Region.ready md ops listed, n ≤ j) :
    ∀ (f : Nat) (listed : Array Bool) (a : Act), HeadInv md ops n listed →
      (∀ j oj, ops[j]? = some oj → j ≠ i → listed.getD j true = false → (∀ e ∈ oj.after, Region.binds md e = true → e.on ≠ i) → oi.apart ops oj = true) →
      i ∈ Region.ready md ops listed → YieldsIn P ops C oi v a →
      wpAnyM P md ops C n L f (listed.setIfInBounds i true) (a.put oi.dst v) → wpAnyM P md ops C n L (f + 1) listed a := by
  intro f
  induction f with
  | zero =>
    intro listed a inv _ hr hy H
    have hun := (mem_ready.1 hr).1
    refine ⟨fun h => (by rw [h] at hr; cases hr), fun j hj => ?_⟩
    have hjn : j < n := by
      rcases Nat.lt_or_ge j n with h | h
      · exact h
      · exact absurd hj (tail_waitsM hs hc inv _ i rfl hin hun j h)
    refine ⟨hjn, ?_⟩
    by_cases hji : j = i
    · subst hji; exact hy.qOp hi H
    · have := hdone _ _ H j (ready_mono hj hji)
      omega
  | succ f ih =>
    intro listed a inv hfree hr hy H
    have hun := (mem_ready.1 hr).1
    refine ⟨fun h => (by rw [h] at hr; cases hr), fun j hj => ?_⟩
    have hjn : j < n := by
      rcases Nat.lt_or_ge j n with h | h
      · exact h
      · exact absurd hj (tail_waitsM hs hc inv _ i rfl hin hun j h)
    refine ⟨hjn, ?_⟩
    by_cases hji : j = i
    · subst hji; exact hy.qOp hi H
    · have h1 := (H.2 j (ready_mono hj hji)).2
      obtain ⟨hjun, oj, hoj, hall⟩ := mem_ready.1 hj
      have hnot : ∀ e ∈ oj.after, Region.binds md e = true → e.on ≠ i := fun e he hb heq => by
        have h1 := hall e he hb
        rw [heq, getD_both hun] at h1
        cases h1
      have h2 := qOp_put hoj (hfree j oj hoj hji hjun hnot) (fun cs b => hsel i oi cs b hi) (fun cs b => hsel j oj cs b hoj) hy h1
      have hfree' : ∀ k ok, ops[k]? = some ok → k ≠ i → (listed.setIfInBounds j true).getD k true = false →
          (∀ e ∈ ok.after, Region.binds md e = true → e.on ≠ i) → oi.apart ops ok = true := fun k ok hk hki hun hno => by
        refine hfree k ok hk hki ?_ hno
        by_cases hjk : j = k
        · subst hjk; exact hjun
        · rw [getD_set_ne true hjk] at hun; exact hun
      refine qOp_mono (fun a' h3 => ih (listed.setIfInBounds j true) a' (inv.set hj hjn) hfree' (ready_mono hr (Ne.symm hji)) h3.1 ?_) h2
      rw [Array.setIfInBounds_comm _ _ hji]
      exact h3.2

def midEndB (md : Region.Mode) (ops : Array Oper) (k : Nat) (listed : Array Bool) : Bool :=
  decide (Region.ready md ops listed = [k]) && Region.lexFrom md ops (ops.size - k - 1) (k + 1) (listed.setIfInBounds k true)
def lexMidB (md : Region.Mode) (ops : Array Oper) : Nat → Nat → Array Bool → Bool
  | 0, k, listed => midEndB md ops k listed
  | f + 1, k, listed => (Region.ready md ops listed).contains k && Region.free md ops listed k && lexMidB md ops f (k + 1) (listed.setIfInBounds k true)
def midB (md : Region.Mode) (ops : Array Oper) (n : Nat) : Bool :=
  Region.noSelect ops && decide (n < ops.size) && Region.sinkB md ops n && awaitsB md ops n && lexMidB md ops n 0 (Array.replicate ops.size false)

theorem midEnd_ready {k : Nat} {listed : Array Bool} (h : midEndB md ops k listed = true) : Region.ready md ops listed = [k] := by
  simp only [midEndB, Bool.and_eq_true, decide_eq_true_eq] at h
  exact h.1

theorem midEnd_ge {k : Nat} {listed : Array Bool} (h : midEndB md ops k listed = true) : ∀ j ∈ Region.ready md ops listed, k ≤ j := by
  intro j hj
  rw [midEnd_ready h] at hj
  have : j = k := by simpa using hj
  omega

theorem wpAnyM_lex {n : Nat} {Lq : Act → Prop} (hsel : Region.noSelect ops = true) (hs : Region.sinkB md ops n = true) (hc : awaitsB md ops n = true) :
    ∀ (l : List Oper) (k : Nat) (listed : Array Bool) (a : Act), (∀ j, j < l.length → l[j]? = ops[k + j]?) → k + l.length = n → HeadInv md ops n listed →
    lexMidB md ops l.length k listed = true → wpQuiet P ops C Lq l a →
    wpAnyM P md ops C n (fun listed' a' => midEndB md ops n listed' = true ∧ Lq a') l.length listed a
  | [], k, listed, a, _, hk, _, hB, h => by
    have : k = n := by simpa using hk
    subst this
    exact ⟨by simpa [lexMidB] using hB, h⟩
  | o :: l, k, listed, a, hl, hk, inv, hB, h => by
    have h0 : ops[k]? = some o := by simpa using (hl 0 (by simp)).symm
    simp only [List.length_cons, lexMidB, Bool.and_eq_true] at hB
    obtain ⟨⟨hr, hf⟩, hB'⟩ := hB
    have hkn : k < n := by simp only [List.length_cons] at hk; omega
    have hr' : k ∈ Region.ready md ops listed := by simpa using hr
    have hst : qOp P ops C k (wpQuiet P ops C Lq l) a := by unfold qOp; simp only [h0]; exact h
    obtain ⟨v, hy, hK⟩ := yieldsIn_of_qOp h0 hst
    exact wpAnyM_first h0 (Region.noSelect_spec hsel) hs hc hkn (fun listed' a' hL => midEnd_ge hL.1) l.length listed a inv (Region.free_spec h0 hf) hr' hy
      (wpAnyM_lex hsel hs hc l (k + 1) _ _ (fun j hj => by have := hl (j + 1) (by simp; omega); simpa [Nat.add_assoc, Nat.add_comm 1 j] using this) (by simp only [List.length_cons] at hk; omega) (inv.set hr' hkn) hB' hK)

/-- what is asked of the one operation in the middle: it is carried out, and behind it the still ones -/
def midOp (P : Program) (ops : Array Oper) (Q : Exit → Act → World → Prop) (o : Oper) (tail : List Oper) (a : Act) (w : World) : Prop :=
  ∀ K : Act → World → Prop, (∀ a2 w2, wpStill P ops w2 (fun a3 => Q .normal a3 w2) tail a2 → K a2 w2) → if Region.wanted o (yielded ops a.tmps) then o.wp P a w K Q else K (a.put o.dst undef) w

theorem wp_region_mid {id : Nat} {Q : Exit → Act → World → Prop} {a : Act} {w : World} {l : List Oper} (n : Nat) (hm : P.follows .mixedOrders = true) (hB : midB .any l.toArray n = true) (hC : C { w with drawn := w.drawn + 1 })
    (h : wpQuiet P l.toArray C (fun a' => ∀ w', C w' → ∀ o, l[n]? = some o → midOp P l.toArray Q o (l.drop (n + 1)) a' w') (l.take n) a) : (Code.region id l.toArray true).wp P Q a w := by
  simp only [midB, Bool.and_eq_true, decide_eq_true_eq] at hB
  obtain ⟨⟨⟨⟨hsel, hn⟩, hs⟩, hc⟩, hlex⟩ := hB
  have hn' : n < l.length := by simpa using hn
  have htl : (l.take n).length = n := by simp; omega
  have inv0 : HeadInv .any l.toArray n (Array.replicate l.toArray.size false) :=
    ⟨by simp, fun j oj _ hl => (by rw [getD_replicate_false] at hl; cases hl), fun t _ ht => getD_in (by simpa using ht) (getD_replicate_false _ _)⟩
  have H := wpAnyM_lex (md := .any) hsel hs hc (l.take n) 0 _ a (fun j hj => by
    have hj' : j < n := by rw [htl] at hj; exact hj
    simp [hj']) (by simpa using htl) inv0 (by rw [htl]; exact hlex) h
  refine wp_region_any hm ?_
  have := wpAny_of_mid (Q' := Q) (g := l.toArray.size - n) (fun listed a' w' hw' hL => by
    obtain ⟨hE, hL2⟩ := hL
    have ho : l.toArray[n]? = some l[n] := by simp [hn']
    have hmid := hL2 w' hw' l[n] (by simp)
    have hr := midEnd_ready hE
    simp only [midEndB, Bool.and_eq_true, decide_eq_true_eq] at hE
    rw [show l.toArray.size - n = (l.drop (n + 1)).length + 1 by simp; omega]
    refine ⟨fun h0 => (by rw [hr] at h0; cases h0), fun i hi => ?_⟩
    rw [hr] at hi
    have : i = n := by simpa using hi
    subst this
    have := hmid (wpAny P .any l.toArray Q (l.drop (i + 1)).length (listed.setIfInBounds i true)) (fun a2 w2 h2 =>
      wpAny_of_still (Q := fun a3 => Q .normal a3 w2) (fun _ h => h) _ _ _ (wpAnyS_lex (md := .any) hsel (l.drop (i + 1)) (i + 1) _ _ (fun j => by simp [List.getElem?_drop]) (by
        rw [show (l.drop (i + 1)).length = l.toArray.size - i - 1 by simp; omega]; exact hE.2) h2))
    unfold wpOp
    simp only [ho]
    split
    · rename_i hw; rw [if_pos hw] at this; exact .inl this
    · rename_i hw; rw [if_neg hw] at this; exact this) _ _ _ _ hC H
  rw [htl, show n + (l.toArray.size - n) = l.toArray.size by omega] at this
  exact this

/-- the same at the class 'the world behind some draws' -/
theorem wp_region_mid_lit {id : Nat} {Q : Exit → Act → World → Prop} {a : Act} {w : World} {l : List Oper} (n : Nat) (hm : P.follows .mixedOrders = true) (hB : midB .any l.toArray n = true)
    (h : wpQuiet P l.toArray (fun w' => ∃ n, w' = w.drewN n) (fun a' => ∀ w', (∃ n, w' = w.drewN n) → ∀ o, l[n]? = some o → midOp P l.toArray Q o (l.drop (n + 1)) a' w') (l.take n) a) : (Code.region id l.toArray true).wp P Q a w :=
  wp_region_mid (C := fun w' => ∃ n, w' = w.drewN n) n hm hB ⟨1, rfl⟩ h
end
end Go.Proofs.YtoafebndlldclaaDoor

namespace Go.Proofs.YtoafebndlldclaaDoor.St
open Go Go.RowKit Go.Shelf Dk Fr Wl Go.Proofs.YtoafebndlldclaaDoorW.PrintWords Go.Proofs.YtoafebndlldclaaDoorW.PrintLast
variable {W w w' : World} {b g bm sb lb : Nat} {D : DS} {S : SS}

theorem StoreOn.drew (h : StoreOn W w b g bm sb lb D S) : StoreOn W w.drew b g bm sb lb D S := ⟨h.log.drewN 1, h.st, h.hsb, h.nf⟩
theorem StoreOn.moved {D2 : DS} (h : StoreOn W w b g bm sb lb D S) (h4 : IsDisk w' b g bm D2) (k4 : Kp (Foot b g bm) w w') : StoreOn W w' b g bm sb lb D2 S :=
  ⟨h.log.disk (h.log.at_.step h4 k4) k4, (k4.block sb h.st.lt (fun hf => h.nf (.inl hf))).trans h.st, h.hsb, h.nf⟩
theorem StoreOn.turn {D2 : DS} {lb2 : Nat} {L : LS} (h : StoreOn W w b g bm sb lb D S) (h4 : IsDisk w' b g bm D2) (k4 : Kp (Foot b g bm) w w') (hlb : w.heap.size ≤ lb2) (hil : IsLog w' lb2 b L) (k ep : Nat) :
    StoreOn W (((w'.setCell ⟨sb, 0, none⟩ (.pointer (some ⟨lb2, 0, none⟩))).setCell ⟨sb, 3, none⟩ (.int .i64 k)).setCell ⟨sb, 2, none⟩ (.int .u64 ep)) b g bm sb lb2 D2 { S with L := L, slot := k, ep := ep } ∧
      Kp (FootS b g bm lb sb) w (((w'.setCell ⟨sb, 0, none⟩ (.pointer (some ⟨lb2, 0, none⟩))).setCell ⟨sb, 3, none⟩ (.int .i64 k)).setCell ⟨sb, 2, none⟩ (.int .u64 ep)) := by
  have hz := h.log.at_.bel.size
  have hsl := h.st.lt
  have hst := (k4.block sb hsl (fun hf => h.nf (.inl hf))).trans h.st
  have hnf : ¬ FootL b g bm lb2 sb := by
    rintro (hf | rfl)
    · exact h.nf (.inl hf)
    · omega
  have hlog : LogOn W w' b g bm lb2 D2 L := ⟨h.log.at_.step h4 k4, hil, by omega, fun hf => by have := h.log.at_.disk.lt hf; omega⟩
  have hr : ∀ k, some sb = some k → W.heap.size ≤ k ∧ ¬ FootL b g bm lb2 k := fun k e => by cases e; exact ⟨h.hsb, hnf⟩
  have e0 := heap_setCell_same w' sb 0 _ _ (.pointer (some ⟨lb2, 0, none⟩)) hst
  have e1 := heap_setCell_same _ sb 3 _ _ (.int .i64 k) e0
  have e2 := heap_setCell_same _ sb 2 _ _ (.int .u64 ep) e1
  refine ⟨⟨((hlog.grown (grown_set w' sb 0 _) hr).grown (grown_set _ sb 3 _) hr).grown (grown_set _ sb 2 _) hr, ?_, h.hsb, hnf⟩, ?_⟩
  · unfold IsStore
    simpa using e2
  · exact (((k4.mono fun _ h => .inl (.inl h)).setCell (p := ⟨sb, 0, none⟩) (.inr rfl) _).setCell (p := ⟨sb, 3, none⟩) (.inr rfl) _).setCell (p := ⟨sb, 2, none⟩) (.inr rfl) _

set_option maxRecDepth 100000 in
set_option maxHeartbeats 4000000 in
theorem StoreOn.compact (h : StoreOn W w b g bm sb lb D S) (hsl : S.slot ≤ 1) (hep : S.ep ≤ 1000000) (text : Bs) (ht : text.length ≤ 4611686018427387904) {D' : DS} {S' : SS} {x : Int} (hR : compactS D S text = (D', S', x)) :
    Calls Tryd.prog 25 #[.pointer (some ⟨sb, 0, none⟩), .string ⟨text.toArray⟩] w fun e w' => e = .returned (.int .i64 x) ∧ ∃ lb', StoreOn W w' b g bm sb lb' D' S' ∧ Kp (FootS b g bm lb sb) w w' := by
  have c1 : w.cell? ⟨sb, 1, none⟩ = some (.pointer (some ⟨b, 0, none⟩)) := cell_of_row w sb 1 _ _ _ h.st
  have c2 : w.cell? ⟨sb, 2, none⟩ = some (.int .u64 S.ep) := cell_of_row w sb 2 _ _ _ h.st
  have c3 : w.cell? ⟨sb, 3, none⟩ = some (.int .i64 S.slot) := cell_of_row w sb 3 _ _ _ h.st
  have c4 : w.cell? ⟨sb, 4, none⟩ = some (.bool S.over) := cell_of_row w sb 4 _ _ _ h.st
  have HST := Lib.hid h
  have HUP := Lib.hid h.log.at_.up
  unfold compactS at hR
  by_cases ho : S.over = true
  · rw [if_pos (.inl ho)] at hR
    obtain ⟨rfl, hR2⟩ := Prod.mk.inj hR
    obtain ⟨rfl, rfl⟩ := Prod.mk.inj hR2
    rw [ho] at c4
    clear h hR hR2
    go_enter Tryd.func25, Tryd.ntmps25
    go_wp2
    go_ret
    exact ⟨rfl, lb, HST.out, Kp.refl _ _⟩
  · have ho2 : S.over = false := by simpa using ho
    rw [ho2] at c4
    by_cases hoff : D.off = true
    · rw [if_pos (.inr hoff)] at hR
      obtain ⟨rfl, hR2⟩ := Prod.mk.inj hR
      obtain ⟨rfl, rfl⟩ := Prod.mk.inj hR2
      have hup := HUP.out
      rw [hoff] at hup
      have HU2 := Lib.hid hup
      clear h hR hR2 HUP hup
      go_enter Tryd.func25, Tryd.ntmps25
      go_wp2_with (go_at_call 39; refine HU2.out.mono ?_; rintro e wu ⟨rfl, rfl⟩)
      go_ret
      exact ⟨rfl, lb, HST.out, Kp.refl _ _⟩
    · rw [if_neg (by simp [ho2, hoff])] at hR
      have hup := HUP.out
      rw [show D.off = false from by simpa using hoff] at hup
      have HU2 := Lib.hid hup
      obtain ⟨k, hk⟩ : ∃ k : Nat, k = 1 - S.slot := ⟨_, rfl⟩
      obtain ⟨ep, hepq⟩ : ∃ ep : Nat, ep = S.ep + 1 := ⟨_, rfl⟩
      have q1 : (1 : Int) - (S.slot : Int) = (k : Int) := by omega
      have q2 : (S.ep : Int) + 1 = (ep : Int) := by omega
      have q4 : IntKind.i64.wrap (k : Int) = (k : Int) := IntWalk.i64_in _ (by omega)
      have q3 : IntKind.u64.wrap (ep : Int) = (ep : Int) := IntWalk.u64_in _ (by omega)
      obtain ⟨⟨D2, o2, x2⟩, hP⟩ : ∃ P, putS D k ep text = P := ⟨_, rfl⟩
      have hpz := @putS_zero D k ep text
      rw [← hk, ← hepq, hP] at hR
      rw [hP] at hpz
      have hpu := fun W (hd : IsDisk W b g bm D) => put_st hd k ep text (by omega) (by omega) ht
      rw [hP] at hpu
      have HPU := Lib.hid hpu
      have HPZ := Lib.hid hpz
      have HR := Lib.hid hR
      have HK := Lib.hid hk
      have HEP := Lib.hid hepq
      clear h hR HUP hup hpz hpu hP hk hepq ho hoff
      go_enter Tryd.func25, Tryd.ntmps25
      go_wp2_with (go_at_call 39; refine HU2.out.mono ?_; rintro e wu ⟨rfl, rfl⟩)
      have hns : ¬ Foot b g bm sb := fun hf => HST.out.nf (.inl hf)
      refine wp_region_mid_lit 15 (by kernel_rfl) (by kernel_rfl) ?_
      simp only [List.take_succ_cons, List.take_zero]
      repeat quiet_step (fail)
      refine wpQuiet_nil ?_
      rintro w1 ⟨nq, rfl⟩ o ho
      simp only [List.getElem?_cons_succ, List.getElem?_cons_zero, Option.some.injEq] at ho
      subst ho
      intro K hK
      go_simp
      refine (HPU.out _ (HST.out.log.at_.disk.drewN nq)).mono ?_
      rintro e w4 ⟨p, rfl, h4, k4, l4⟩
      refine hK _ _ ?_
      clear hK K
      simp only [List.drop_succ_cons, List.drop_zero]
      repeat still_step
      refine wpStill_nil ?_
      have H4 := Lib.hid h4
      have K4 := Lib.hid k4
      have L4 := Lib.hid (LogAt.mono l4 (Nat.le_refl w.heap.size))
      have hst4 : IsStore w4 sb b (some ⟨lb, 0, none⟩) S := (k4.block sb HST.out.st.lt hns).trans HST.out.st
      have d0 : w4.cell? ⟨sb, 0, none⟩ = some (.pointer (some ⟨lb, 0, none⟩)) := cell_of_row w4 sb 0 _ _ _ hst4
      have d1 : w4.cell? ⟨sb, 2, none⟩ = some (.int .u64 S.ep) := cell_of_row w4 sb 2 _ _ _ hst4
      have d2 : w4.cell? ⟨sb, 3, none⟩ = some (.int .i64 S.slot) := cell_of_row w4 sb 3 _ _ _ hst4
      have d4 : w4.cell? ⟨sb, 4, none⟩ = some (.bool S.over) := cell_of_row w4 sb 4 _ _ _ hst4
      have f0 : w4.frozen? ⟨sb, 0, none⟩ = false := frozen_of_row w4 sb 0 _ _ hst4
      have f2 : w4.frozen? ⟨sb, 2, none⟩ = false := frozen_of_row w4 sb 2 _ _ hst4
      have f3 : w4.frozen? ⟨sb, 3, none⟩ = false := frozen_of_row w4 sb 3 _ _ hst4
      have f4 : w4.frozen? ⟨sb, 4, none⟩ = false := frozen_of_row w4 sb 4 _ _ hst4
      have HS4 := Lib.hid hst4
      clear h4 k4 l4 hst4
      by_cases hx : x2 = 0
      · subst hx
        obtain ⟨L, ho⟩ := HPZ.out rfl
        subst ho
        obtain ⟨lb2, rfl, hlb, hil⟩ := L4.out
        have HLB := Lib.hid hlb
        have HIL := Lib.hid hil
        clear hlb hil
        go_wp2
        go_big_region
        go_wp2
        go_ret
        have hr := HR.out
        simp only [↓reduceIte, Option.getD_some] at hr
        obtain ⟨rfl, hr2⟩ := Prod.mk.inj hr
        obtain ⟨rfl, rfl⟩ := Prod.mk.inj hr2
        obtain ⟨t1, t2⟩ := HST.out.turn H4.out ((kp_drewN _ _ nq).trans K4.out) HLB.out HIL.out k ep
        exact ⟨rfl, lb2, t1.drew, t2.drew⟩
      · have hte : (x2 == 0) = false := by rw [beq_eq_false_iff_ne]; exact hx
        by_cases h8 : x2 = 180
        · subst h8
          go_wp2
          go_ret
          have hr := HR.out
          rw [if_neg (by decide)] at hr
          simp only [↓reduceIte] at hr
          obtain ⟨rfl, hr2⟩ := Prod.mk.inj hr
          obtain ⟨rfl, rfl⟩ := Prod.mk.inj hr2
          have h5 := HST.out.moved H4.out ((kp_drewN _ _ nq).trans K4.out)
          exact ⟨rfl, ⟨lb, h5.setOver true⟩, (((kp_drewN _ _ nq).trans K4.out).mono fun _ h => .inl (.inl h)).setCell (p := ⟨sb, 4, none⟩) (.inr rfl) _⟩
        · have hte2 : (x2 == 180) = false := by rw [beq_eq_false_iff_ne]; exact h8
          go_wp2
          go_ret
          have hr := HR.out
          rw [if_neg hx, if_neg h8] at hr
          obtain ⟨rfl, hr2⟩ := Prod.mk.inj hr
          obtain ⟨rfl, rfl⟩ := Prod.mk.inj hr2
          exact ⟨rfl, ⟨lb, HST.out.moved H4.out ((kp_drewN _ _ nq).trans K4.out)⟩, ((kp_drewN _ _ nq).trans K4.out).mono fun _ h => .inl (.inl h)⟩
end Go.Proofs.YtoafebndlldclaaDoor.St

namespace Go.Proofs.YtoafebndlldclaaDoor.St
open Go Go.RowKit Go.Shelf Dk Fr Wl Go.Proofs.YtoafebndlldclaaDoor.PAll Go.Proofs.YtoafebndlldclaaDoorW.PrintWords Go.Proofs.YtoafebndlldclaaDoorW.PrintLast

theorem results_tmp4 {fn : Func} {t u v x : Tmp} (h : fn.results = #[.tmp t, .tmp u, .tmp v, .tmp x]) (tmps : Array Value) (P : Program) (w : World) :
    (results fn tmps).run P w = .ok (.tuple #[tmps.getD t undef, tmps.getD u undef, tmps.getD v undef, tmps.getD x undef]) w := by
  simp [results, h]

variable {w : World} {b g bm : Nat} {D : DS}
def SOpenPost (w : World) (b g bm : Nat) (R : DS × Option SS × Bs × List Bs × Int) (e : Ending) (w' : World) : Prop :=
  ∃ (p : Option Addr) (v : Value), e = .returned (.tuple #[.pointer p, .string ⟨R.2.2.1.toArray⟩, v, .int .i64 R.2.2.2.2]) ∧ IsDisk w' b g bm R.1 ∧ Kp (Foot b g bm) w w' ∧ StoreAt w' w.heap.size b p R.2.1 ∧ Texts w' w.heap.size v R.2.2.2.1

theorem texts_nil (w : World) (base : Nat) : Texts w base (.slice none 0 0) [] := ⟨rfl, .inl ⟨rfl, rfl⟩⟩
theorem sopen_none {w' : World} (hk : Kp (Foot b g bm) w w') (hd : IsDisk w' b g bm D) (x : Int) : SOpenPost w b g bm (D, none, [], [], x) (.returned (.tuple #[.pointer none, .string ⟨#[]⟩, .slice none 0 0, .int .i64 x])) w' :=
  ⟨none, _, rfl, hd, hk, rfl, texts_nil _ _⟩

set_option maxRecDepth 100000 in
set_option maxHeartbeats 4000000 in
theorem sopen_call (h : IsDisk w b g bm D) (R : DS × Option SS × Bs × List Bs × Int) (hR : openS D = R) :
    Calls Tryd.prog 21 #[.pointer (some ⟨b, 0, none⟩)] w (SOpenPost w b g bm R) := by
  have HD := Lib.hid (held_call h)
  have HH := Lib.hid h
  have hn4 := h.ok.hi
  unfold openS at hR
  by_cases h0 : heldD D = 0
  · rw [if_neg (by simpa using h0)] at hR
    have hup : D.off = false := by
      unfold heldD at h0
      split at h0
      · simp at h0
      · split at h0
        · simp at h0
        · rename_i hx; simpa using hx
    have hdd := HD.out
    rw [h0] at hdd
    have HDD := Lib.hid hdd
    have hfo := fun W (hb : Below w.heap.size w W) => found_call (h.below hb) hup
    obtain ⟨n, hn⟩ : ∃ n, n = D.olds.length := ⟨_, rfl⟩
    obtain ⟨k, hk⟩ : ∃ k, k = slotN n := ⟨_, rfl⟩
    have hk2 : 2 * k ≤ n := by rw [hk]; unfold slotN; split <;> omega
    have HL := Lib.hid (fun W (hd : IsDisk W b g bm D) => len_any hd)
    rw [← hn] at HL hR hn4
    rw [← hk] at hR
    have q4 : IntKind.i64.wrap (2 * (k : Int)) = 2 * (k : Int) := IntWalk.i64_in _ (by omega)
    have hsl : store_Slot.f ((n : Nat) : Int) = some ((k : Nat) : Int) := by
      rw [hk]
      unfold store_Slot.f slotN
      by_cases h1 : n < 8
      · rw [if_pos (by omega), if_pos (by omega)]; rfl
      · rw [if_neg (by omega), if_neg (by omega), if_neg (by omega), Int.tdiv_eq_ediv_of_nonneg (by omega), wrap_ok (by omega) (by omega)]
        congr 1
    have HSC := Lib.hid (fun W => store_Slot.calls ((n : Nat) : Int) _ W hsl)
    obtain ⟨⟨f1, f2, f3⟩, hf⟩ : ∃ x, foundD D = x := ⟨_, rfl⟩
    rw [hf] at hfo hR
    have HFO := Lib.hid hfo
    clear HD h hdd hfo hf h0 hup hn hk hsl
    by_cases ha : f3 < 0
    · rw [if_pos ha] at hR
      subst hR
      go_enter Tryd.func21, Tryd.ntmps21
      go_wp2_with fail
      refine HDD.out.mono ?_
      rintro e w1 ⟨rfl, hb1⟩
      have HB1 := Lib.hid hb1
      clear hb1
      go_wp2_with fail
      refine (HFO.out _ HB1.out).mono ?_
      rintro e w2 ⟨rfl, hb2⟩
      have HB2 := Lib.hid (HB1.out.trans (hb2.mono HB1.out.size))
      clear hb2
      go_wp2
      refine bodyPost_ret (results_tmp4 rfl _ _ _) rfl ?_
      have hb := HB2.out.alloc HB2.out.size (.cells #[.int .u64 f1, .int .u64 f1, .string ⟨f2.toArray⟩] 100)
      exact sopen_none (.of_below hb) (HH.out.below hb) _
    · rw [if_neg ha] at hR
      obtain ⟨f, rfl⟩ := Int.eq_ofNat_of_zero_le (show 0 ≤ f3 by omega)
      obtain ⟨⟨D2, o2, t2, x2⟩, hO⟩ : ∃ P, openL D ((2 * k : Nat) : Int) ((n : Nat) : Int) f1 = P := ⟨_, rfl⟩
      have hoz := @openL_zero D ((2 * k : Nat) : Int) ((n : Nat) : Int) f1
      have hop := fun W (hd : IsDisk W b g bm D) => open_any hd ((2 * k : Nat) : Int) ((n : Nat) : Int) f1
      rw [hO] at hoz hR hop
      rw [show ((2 * k : Nat) : Int) = 2 * (k : Int) from by omega] at hop
      have HOP := Lib.hid hop
      have HOZ := Lib.hid hoz
      have HR := Lib.hid hR
      clear hoz hop hO hR ha
      go_enter Tryd.func21, Tryd.ntmps21
      go_wp2_with fail
      refine HDD.out.mono ?_
      rintro e w1 ⟨rfl, hb1⟩
      have HB1 := Lib.hid hb1
      clear hb1
      go_wp2_with fail
      refine (HFO.out _ HB1.out).mono ?_
      rintro e w2 ⟨rfl, hb2⟩
      have HB2 := Lib.hid ((HB1.out.trans (hb2.mono HB1.out.size)).alloc (Nat.le_trans HB1.out.size hb2.size) (.cells #[.int .u64 f1, .int .u64 f1, .string ⟨f2.toArray⟩] 100))
      have HZ := Lib.hid (Nat.le_trans HB1.out.size hb2.size)
      clear hb2
      go_wp2
      obtain ⟨wx, hwx⟩ : ∃ wx, wx = w2.alloc (.cells #[.int .u64 f1, .int .u64 f1, .string ⟨f2.toArray⟩] 100) := ⟨_, rfl⟩
      rw [← hwx] at HB2
      have hcx : wx.heap[w2.heap.size]? = some (.cells #[.int .u64 f1, .int .u64 f1, .string ⟨f2.toArray⟩] 100 (0, 0)) := by rw [hwx]; exact World.alloc_heap_new w2 _
      have c1 : wx.cell? ⟨w2.heap.size, 1, none⟩ = some (.int .u64 f1) := cell_of_row wx w2.heap.size 1 _ _ _ hcx
      have HCX := Lib.hid hcx
      rw [← hwx]
      clear hcx hwx
      have hlen := fun (m : Nat) => (show Calls Tryd.prog 45 #[.pointer (some ⟨b, 0, none⟩)] (wx.drewN m) fun e w'' => e = .returned (.int .i64 ((n : Nat) : Int)) ∧ ∃ m', w'' = wx.drewN m' from
        (HL.out _ ((HH.out.below HB2.out).drewN m)).mono fun _ _ ⟨he, hw⟩ => ⟨he, m, hw.symm⟩)
      have hslo := fun (m : Nat) => (show Calls Tryd.prog 27 #[.int .i64 ((n : Nat) : Int)] (wx.drewN m) fun e w'' => e = .returned (.int .i64 ((k : Nat) : Int)) ∧ ∃ m', w'' = wx.drewN m' from
        Calls.quiet_of ((HSC.out (wx.drewN m)).mono fun _ _ ⟨he, hw⟩ => ⟨he, hw.out⟩))
      have HLEN := Lib.hid hlen
      have HSLO := Lib.hid hslo
      clear hlen hslo
      refine wp_region_mid_lit 9 (by kernel_rfl) (by kernel_rfl) ?_
      simp only [List.take_succ_cons, List.take_zero]
      repeat quiet_step (first | exact HLEN.out _ | exact HSLO.out _)
      refine wpQuiet_nil ?_
      rintro w1 ⟨nq, rfl⟩ o ho
      simp only [List.getElem?_cons_succ, List.getElem?_cons_zero, Option.some.injEq] at ho
      subst ho
      intro K hK
      go_simp
      refine (HOP.out _ ((HH.out.below HB2.out).drewN nq)).mono ?_
      rintro e w6 ⟨p, v6, rfl, h6, k6, t6, l6⟩
      refine hK _ _ ?_
      clear hK K
      simp only [List.drop_succ_cons, List.drop_zero]
      repeat still_step
      refine wpStill_nil ?_
      have hcx6 : w6.heap[w2.heap.size]? = some (.cells #[.int .u64 f1, .int .u64 f1, .string ⟨f2.toArray⟩] 100 (0, 0)) :=
        (k6.block _ (Array.getElem?_eq_some_iff.1 HCX.out).1 (fun hf => by have := HH.out.lt hf; have := HZ.out; omega)).trans HCX.out
      have d1 : w6.cell? ⟨w2.heap.size, 1, none⟩ = some (.int .u64 f1) := cell_of_row w6 w2.heap.size 1 _ _ _ hcx6
      have d2 : w6.cell? ⟨w2.heap.size, 2, none⟩ = some (.string ⟨f2.toArray⟩) := cell_of_row w6 w2.heap.size 2 _ _ _ hcx6
      have hl6 : w2.heap.size < w6.heap.size := (Array.getElem?_eq_some_iff.1 hcx6).1
      have e1 : ∀ o, (w6.alloc o).cell? ⟨w2.heap.size, 1, none⟩ = some (.int .u64 f1) := fun o => (World.cell?_alloc_lt w6 o _ hl6).trans d1
      have e2 : ∀ o, (w6.alloc o).cell? ⟨w2.heap.size, 2, none⟩ = some (.string ⟨f2.toArray⟩) := fun o => (World.cell?_alloc_lt w6 o _ hl6).trans d2
      have H6 := Lib.hid h6
      have K6 := Lib.hid ((Kp.of_below HB2.out).trans ((kp_drewN _ _ nq).trans k6))
      have hxz : w.heap.size ≤ wx.heap.size := HB2.out.size
      have T6 : Hid (Texts w6 w.heap.size v6 t2) := Lib.hid (World.ownsRow.mono t6 hxz)
      have L6 := Lib.hid (LogAt.mono l6 hxz)
      clear h6 k6 t6 l6 hcx6 hxz hl6
      by_cases hx : x2 = 0
      · subst hx
        obtain ⟨L, ho⟩ := HOZ.out rfl
        have ho : o2 = some L := ho
        subst ho
        obtain ⟨lb, rfl, hlb, hil⟩ := L6.out
        have HLB := Lib.hid hlb
        have HIL := Lib.hid hil
        clear hlb hil
        go_wp2
        go_region
        all_goals go_wp2
        all_goals refine bodyPost_ret (results_tmp4 rfl _ _ _) rfl ?_
        all_goals
          have hr := HR.out
          simp only [ne_eq, not_true_eq_false, if_false, Option.map_some] at hr
          subst hr
          have hk0 := (K6.out.alloc (.cells #[.pointer (some ⟨lb, 0, none⟩), .pointer (some ⟨b, 0, none⟩), .int .u64 f1, .int .i64 f, .bool false] 55)).drew
          have hbx : Below w6.heap.size w6 (w6.alloc (.cells #[.pointer (some ⟨lb, 0, none⟩), .pointer (some ⟨b, 0, none⟩), .int .u64 f1, .int .i64 f, .bool false] 55)).drew := Below.drew ((Below.refl _ w6).alloc (Nat.le_refl _) _)
          refine ⟨_, _, rfl, (H6.out.alloc _).drew, hk0, ⟨w6.heap.size, lb, rfl, K6.out.size, HLB.out, fun e => by have := HIL.out.lt; omega, World.alloc_heap_new w6 _, HIL.out.below hbx HIL.out.lt⟩, T6.out.below hbx (Nat.le_refl _)⟩
      · have hte : (x2 != 0) = true := by rw [bne_iff_ne]; exact hx
        go_wp2
        refine bodyPost_ret (results_tmp4 rfl _ _ _) rfl ?_
        have hr := HR.out
        rw [if_pos hx] at hr
        subst hr
        exact sopen_none K6.out H6.out _
  · rw [if_pos (by simpa using h0)] at hR
    subst hR
    have hte : (heldD D != 0) = true := by rw [bne_iff_ne]; exact h0
    clear h
    go_enter Tryd.func21, Tryd.ntmps21
    go_wp2_with fail
    refine HD.out.mono ?_
    rintro e w1 ⟨rfl, hb1⟩
    go_wp2
    refine bodyPost_ret (results_tmp4 rfl _ _ _) rfl ?_
    exact sopen_none (.of_below hb1) (HH.out.below hb1) _
end Go.Proofs.YtoafebndlldclaaDoor.St
