/- digit.Base: the digits of a natural to a base. -/
import Derived.Test.YtgdlkpfkaehebaaDoorTk
import Derived.Maps.OwnIn
set_option linter.unusedVariables false
namespace Go.Proofs.YtgdlkpfkaehebaaDoor.Bs
open Go Go.RowKit Go.Proofs.YtgdlkpfkaehebaaDoorW.PrintWords Go.Proofs.YtgdlkpfkaehebaaDoorW.PrintLast Go.Proofs.YtgdlkpfkaehebaaDoorW.PrintMore
open Nt Lm It Tk
attribute [local go_sem] Oper.semAt_some

def boxS (W : World) (B : Nat) (v : Value) : Prop := W.heap[B]? = some (.cells #[v] 22 (0, 0))
theorem boxS.cell {W : World} {B : Nat} {v : Value} (h : boxS W B v) : W.cell? ⟨B, 0, none⟩ = some v ∧ W.frozen? ⟨B, 0, none⟩ = false := ⟨cell_of_row W B 0 _ _ _ h, by simp [World.frozen?, show W.heap[B]? = _ from h]⟩
theorem boxS.row {W : World} {B : Nat} {v : Value} (h : boxS W B v) : Tk.rowAt B W = v.ownBlock := by unfold Tk.rowAt; rw [h.cell.1]
/-- between two rounds -/
structure BaseAt (w : World) (pre : List Nat) (W : World) : Prop where
  row : ∃ v, boxS W w.heap.size v ∧ Nw W w.heap.size v pre ∧ (∀ k, v.ownBlock = some k → w.heap.size + 3 ≤ k)
  below : Below w.heap.size w W
  len : pre.length ≤ 1000
theorem nw_block {w : World} {lo : Nat} {v : Value} {l : List Nat} (h : Nw w lo v l) (k : Nat) (hk : v.ownBlock = some k) : lo ≤ k ∧ ∃ cells, w.heap[k]? = some (.cells cells 29 (0, 0)) := by
  obtain ⟨_, inner, ho, _⟩ := h
  exact ⟨own_base ho k hk, own_typed ho k hk⟩
theorem nw_grown {w w' : World} {lo : Nat} {v : Value} {l : List Nat} (h : Nw w lo v l) {row : Option Nat} (hg : w.grownBy w' row) (hne : ∀ k, row = some k → some k ≠ v.ownBlock) : Nw w' lo v l := Kd.R_grown2 h rfl hg hne
theorem BaseAt.grown {w W W' : World} {pre : List Nat} {row : Option Nat} (h : BaseAt w pre W) (hg : W.grownBy W' row)
    (hr : ∀ r, row = some r → r = w.heap.size + 1 ∨ (w.heap.size + 3 ≤ r ∧ ∃ o : Obj, W.heap[r]? = some o ∧ o.isCells = false)) : BaseAt w pre W' := by
  obtain ⟨⟨v, h1, h2, h3⟩, h4, h5⟩ := h
  refine ⟨⟨v, ?_, nw_grown h2 hg ?_, h3⟩, h4.grown hg h4.size (fun k e => ?_), h5⟩
  · refine (hg.block _ (Array.getElem?_eq_some_iff.1 h1).1 (fun e => ?_)).trans h1
    rcases hr _ e.symm with h6 | ⟨h6, _⟩ <;> omega
  · intro k e e2
    rcases hr k e with h6 | ⟨h6, o, ho, hc⟩
    · have := h3 k e2.symm; omega
    · obtain ⟨_, cells, hk⟩ := nw_block h2 k e2.symm
      rw [hk] at ho
      cases ho
      cases hc
  · rcases hr k e with h6 | ⟨h6, _⟩ <;> omega

/-- one limb is appended, inside a fence -/
theorem app1_in {F : Fence} {nF : Nat} {ops : Array Oper} {rest : List Oper} {o : Oper} {a : Act} {Q : Exit → Act → World → Prop} {W : World} (lo : Nat) (hgd : o.guard = none) (s x : Operand)
    (ho : o.op = .call { callee := .builtin .append, args := #[s, x], argTypes := #[22, 22] }) (v : Value) (l : List Nat) (y : Nat) (hs : a.eval s = v) (hx : a.eval x = .slice (some ⟨W.heap.size, 0, none⟩) 1 1)
    (HO : Nw W lo v l) (hbase : lo ≤ W.heap.size) (hl : l.length ≤ 1000000)
    (h : ∀ v1 w1, Nw w1 lo v1 (l ++ [y]) → W.grownBy w1 v.ownBlock → (v1.ownBlock = v.ownBlock ∨ ∃ b, v1.ownBlock = some b ∧ W.heap.size ≤ b) → wpListIn F nF Tryd.prog ops Q rest (a.put o.dst v1) w1) :
    wpListIn F nF Tryd.prog ops Q (o :: rest) a (W.alloc (.cells #[.int .u64 (y : Int)] 29)) := by
  obtain ⟨i0, hi, hz0, hz1, hz2⟩ := info_parts Cl.infoU
  have hown := (Kd.own_of_R HO).alloc (.cells #[.int .u64 (y : Int)] 29)
  rw [ints_len] at hown
  refine wpListIn_append_own_at _ hgd s x 22 ho lo 29 i0 (.int .u64 0) 1 8 Tryd.underlying22 hi hz0 hz1 hz2 rfl (by decide) v l.length _ hs hown ⟨W.heap.size, 0, none⟩ 1 1 [.int .u64 (y : Int)] hx rfl (cell_one_new _ _ _) (by simp [Value.oneCell']) (by unfold maxLen; omega) (by omega) (by simp; omega) ?_
  intro v' w' h1 h2 h3 h4
  refine h v' w' ?_ (World.grownBy.trans (World.grownBy_alloc W _ _) h2) ?_
  · refine Kd.R_of_own ?_ (fun _ _ => trivial)
    have e : encs (Value.int .u64) (ints (l ++ [y])) = encs (Value.int .u64) (ints l) ++ [.int .u64 (y : Int)] := by rw [ints_app]; simp [encs, ints]
    rw [e, ints_len, List.length_append]
    exact h1
  · rcases h4 with h4 | h4
    · exact .inl h4
    · exact .inr ⟨_, h4, by simp⟩

set_option maxRecDepth 100000 in
set_option maxHeartbeats 4000000 in
theorem base_call (A : Option Addr) (c : Nat) (l : List Nat) (b : Nat) (w : World) (hr : Rw w A l) (hm : May l) (hlim : Lim l) (hc : l.length ≤ c) (hb2 : 2 ≤ b) (hb64 : b < 18446744073709551616) :
    Calls Tryd.prog 12 #[.slice A l.length c, .int .u64 (b : Int)] w fun e w' => ∃ v, e = .returned v ∧ Nw w' w.heap.size v (digs b (val l)) ∧ Below w.heap.size w w' := by
  refine (callsIn_wide (n := 6)).1 ?_
  have HM := Lib.hid (fun w hr => may_call A c l w hr (by have := hm.1; omega))
  have emay : mayB l = true := decide_eq_true hm
  rw [emay] at HM
  have HR := Lib.hid hr
  have hlt : decide ((b : Int) < 2) = false := decide_eq_false (by omega)
  clear hr emay
  refine callsIn_of_wp_marks Tryd.func12 rfl trivial ?_ rfl
  simp only [Tryd.ntmps12, List.size_toArray, List.length_cons, List.length_nil, Nat.reduceAdd, Nat.reduceSub, Array.replicate_succ, Array.replicate_zero, List.push_toArray, List.append_toArray, List.nil_append, List.cons_append]
  gi_wp2_with (first
    | (refine ⟨trivial, ?_⟩; gi_at_call 20; refine (callsIn_wide.2 (HM.out _ (HR.out.below ((Below.refl _ _).alloc (Nat.le_refl _) _)))).mono ?_; rintro e w' ⟨rfl, rfl⟩)
    | (refine ⟨trivial, ?_⟩; gi_at_call 21; refine (callsIn_wide.2 (taken_call _ _ _ _ _)).mono ?_; rintro e w' ⟨rfl, rfl⟩))
  obtain ⟨W0, hW0⟩ : ∃ W0, ((w.alloc (.cells #[.slice none 0 0] 22)).alloc (.cells #[.slice A l.length c] 23)).alloc (.cells #[.int .u64 (b : Int)] 29) = W0 := ⟨_, rfl⟩
  have hs : W0.heap.size = w.heap.size + 3 := by rw [← hW0]; simp
  have hB0 : Below w.heap.size w W0 := by
    rw [← hW0]
    exact (((Below.refl _ w).alloc (Nat.le_refl _) _).alloc (by simp) _).alloc (by simp; omega) _
  have h1 : boxS W0 w.heap.size (.slice none 0 0) := by
    rw [← hW0]
    exact blk_grown (blk_grown (World.alloc_heap_new w _) (World.grownBy_alloc _ _ none) (by simp)) (World.grownBy_alloc _ _ none) (by simp)
  have h2 : boxN W0 (w.heap.size + 1) (.slice A l.length c) := by
    rw [← hW0]
    have := World.alloc_heap_new (w.alloc (.cells #[.slice none 0 0] 22)) (.cells #[.slice A l.length c] 23)
    rw [World.size_alloc] at this
    exact blk_grown this (World.grownBy_alloc _ _ none) (by simp)
  have h3 : boxU W0 (w.heap.size + 2) (.int .u64 (b : Int)) := by
    rw [← hW0]
    have := World.alloc_heap_new ((w.alloc (.cells #[.slice none 0 0] 22)).alloc (.cells #[.slice A l.length c] 23)) (.cells #[.int .u64 (b : Int)] 29)
    rw [World.size_alloc, World.size_alloc] at this
    exact this
  have hC : BaseAt w [] W0 := ⟨⟨_, h1, Nw.nil _ _, fun k hk => by simp [Value.ownBlock] at hk⟩, hB0, by simp⟩
  have hrW : Tk.rowAt w.heap.size W0 = none := by rw [h1.row]; rfl
  have hap : ∀ ad, A = some ad → 0 < l.length → ad.block ≠ w.heap.size ∧ ad.block ≠ w.heap.size + 1 := by
    intro ad e hp
    subst e
    obtain ⟨o, ho, _⟩ := Rw_cells HR.out hp
    have := (Array.getElem?_eq_some_iff.1 ho).1
    omega
  have hR0 := HR.out.below hB0
  rw [hW0]
  have hseq := taken_iter 5 (by omega) b (val l) w.heap.size (w.heap.size + 1) (w.heap.size + 1 + 1) hb2 hb64 (by omega) A l c W0 rfl hm hlim hc h2 h3 hR0 hap (by omega) hrW
  have HS := Lib.hid hseq
  have HC0 := Lib.hid hC
  clear hseq hC hrW hap hR0 h1 h2 h3 hB0 hW0
  refine wpIn_rangeFunc_iter (w := W0) (T := fun k => k = w.heap.size + 1) (Kp := KpT w.heap.size) rfl (by omega) (gf := 36) (lb := #[.pointer (some ⟨w.heap.size + 1, 0, none⟩), .pointer (some ⟨w.heap.size + 1 + 1, 0, none⟩)]) rfl trivial (enters_of Tryd.func36 (by kernel_rfl) rfl)
    HS.out (fun k hk => by omega)
    (fun hA hB => hA.trans hB) (fun W l o o' hl ho hc _ => KpT.put (bl := w.heap.size) W l o o' (by omega) ho hc) (Below.refl _ _) (fun _ => rfl)
    (fun pre W => BaseAt w pre W) (fun c _ W => False)
    (fun s X Y row hs2 hg hr => hs2.grown hg (fun r e => (hr r e).elim (fun h => .inl h) (fun h => .inr ⟨by omega, h.2⟩)))
    (fun c s X Y row hs2 hg hr => hs2.elim)
    HC0.out
    (fun pre x a' W => a' = { tmps := #[.slice A l.length c, .int .u64 (b : Int), undef, undef, .pointer (some ⟨w.heap.size, 0, none⟩), .int .u64 (x : Int), .slice A l.length c, .bool true, .bool false, .bool false, .int .u64 (b : Int), .bool false, .bool false, .slice A l.length c, .int .u64 (b : Int), .func (.func 36) #[] #[.pointer (some ⟨w.heap.size + 1, 0, none⟩), .pointer (some ⟨w.heap.size + 1 + 1, 0, none⟩)], .int .u64 (x : Int), undef, undef, undef, undef, undef], defers := [] })
    ?hAx ?hS ?hSp ?assign ?body ?done ?stop
  case hAx =>
    rintro pre x a' s X Z row k4 hg hr
    exact k4
  case hS =>
    rintro s X Z row k1 hg hr
    exact k1
  case hSp =>
    rintro s X Z row k1 hg hr
    exact k1
  case assign =>
    rintro lp pre x W K hI hy hK
    simp only [encD]
    gi_wp2
    exact hK _ _ (KeepsFrom.refl _ _) (KpT.refl _ _) hI rfl
  case body =>
    rintro lp pre x a' W hl hex hI rfl hlt2
    obtain ⟨⟨v, v1, v2, v3⟩, hbw, hln⟩ := hI
    obtain ⟨A1, c1, rfl, hc1, hr1⟩ := v2.open
    have cx := v1.cell
    have hW3 : w.heap.size + 3 ≤ W.heap.size := by
      obtain ⟨rr, hrr⟩ := hex
      have := (Array.getElem?_eq_some_iff.1 hrr).1
      omega
    have HV2 := Lib.hid v2
    gi_wp2_with (gi_at_builtin; refine app1_in (W := W) w.heap.size rfl _ _ rfl (.slice A1 pre.length c1) pre x rfl rfl HV2.out hbw.size (by omega) ?_; intro vv w1 hv1 hg1 hat1; obtain ⟨A2, c2, rfl, hc2, hr2⟩ := hv1.open; have z1 : boxS w1 w.heap.size _ := (blk_grown v1 hg1 (fun e => by have := v3 _ e.symm; omega)); obtain ⟨z2, z3⟩ := z1.cell)
    obtain ⟨W2, hW2⟩ : ∃ W2, W2 = w1.setCell ⟨w.heap.size, 0, none⟩ (.slice A2 (pre.length + 1) c2) := ⟨_, rfl⟩
    rw [← hW2]
    have hs1 := hg1.size
    have hbs := hbw.size
    have hg2 : w1.grownBy W2 (some w.heap.size) := by rw [hW2]; exact grownBy_setCell' _ _ _
    have hnb : boxS W2 w.heap.size (.slice A2 (pre.length + 1) c2) := by rw [hW2]; exact blk_set z1 0 _
    have hnb2 : boxS W w.heap.size (.slice A1 pre.length c1) := v1
    have hown2 : ∀ k, (Value.slice A2 (pre.length + 1) c2).ownBlock = some k → (Value.slice A1 pre.length c1).ownBlock = some k ∨ W.heap.size ≤ k := by
      intro k hk
      have hat2 : (Value.slice A2 (pre.length + 1) c2).ownBlock = (Value.slice A2 (pre ++ [x]).length c2).ownBlock := by rw [List.length_append]; rfl
      rw [hat2] at hk
      rcases hat1 with e | ⟨g, e, hg⟩
      · exact .inl (by rw [← e]; exact hk)
      · rw [e] at hk; injection hk with hk; exact .inr (by omega)
    have hv2 : Nw W2 w.heap.size (.slice A2 (pre.length + 1) c2) (pre ++ [x]) := by
      have := nw_grown hv1 hg2 (fun k e e2 => by
        injection e with e
        subst e
        rcases hown2 _ (by rw [List.length_append] at e2; exact e2.symm) with h | h
        · have := v3 _ h; omega
        · omega)
      rw [List.length_append] at this
      exact this
    have hother : ∀ k o, k ≠ w.heap.size → some k ≠ (Value.slice A1 pre.length c1).ownBlock → W.heap[k]? = some o → W2.heap[k]? = some o := by
      intro k o h1 h2 h3
      have hk := (Array.getElem?_eq_some_iff.1 h3).1
      exact (hg2.block k (by omega) (fun e => by injection e with e; exact h1 e)).trans ((hg1.block k hk h2).trans h3)
    refine ⟨⟨by have := hg2.size; omega, fun k o hk ho hno => ?_⟩, ⟨by have := hg2.size; omega, fun k o h1 h2 h3 h4 => ?_, fun r hr => ?_⟩, ⟨⟨_, hnb, hv2, fun k hk => ?_⟩, ?_, ?_⟩⟩
    · refine hother k o (by omega) (fun e => ?_) ho
      obtain ⟨_, cells, hcells⟩ := nw_block HV2.out k e.symm
      rw [hcells] at ho
      cases ho
      cases hno
    · refine hother k o h1 ?_ h3
      rw [hnb2.row] at h2
      exact h2
    · rw [hnb.row] at hr
      rw [hnb2.row]
      rcases hown2 r hr with h | h
      · exact .inl h
      · exact .inr ⟨h, (Array.getElem?_eq_some_iff.1 (nw_block hv2 r hr).2.choose_spec).1⟩
    · rcases hown2 k hk with h | h
      · exact v3 k h
      · omega
    · exact (hbw.grown hg1 hbs (fun k e => (nw_block HV2.out k e).1)).grown hg2 (by omega) (fun k e => by injection e with e; omega)
    · rw [List.length_append]; simp; omega
  case done =>
    rintro D xs W hD hxs hI hK
    obtain ⟨⟨v, v1, v2, v3⟩, hbw, hln⟩ := hI
    have cx := v1.cell
    obtain ⟨cx1, cx2⟩ := cx
    have HXS := Lib.hid hxs
    clear hxs
    obtain ⟨A1, c1, rfl, hc1, hr1⟩ := v2.open
    have HV := Lib.hid v2
    have HV1 := Lib.hid v1
    have HK := Lib.hid hK
    have HV3 := Lib.hid v3
    have hDW : D < W.heap.size := (Array.getElem?_eq_some_iff.1 hK).1
    clear v1 v2 v3 hr1 hK
    gi_wp2
    have e1 : boxS (W.setCell ⟨w.heap.size, 0, none⟩ (.slice A1 xs.length c1)) w.heap.size (.slice A1 xs.length c1) := blk_set HV1.out 0 _
    have hK2 : (W.setCell ⟨w.heap.size, 0, none⟩ (.slice A1 xs.length c1)).heap[D]? = some (.deferred (some [])) := (Below.heap_setCell _ _ _ _ (by show D ≠ w.heap.size; omega)).trans HK.out
    have hv2 : Nw (W.setCell ⟨w.heap.size, 0, none⟩ (.slice A1 xs.length c1)) w.heap.size (.slice A1 xs.length c1) xs := nw_grown HV.out (grownBy_setCell' _ _ _) (fun k e e2 => by
      injection e with e
      have := HV3.out _ e2.symm
      omega)
    have hb2 : Below w.heap.size w (W.setCell ⟨w.heap.size, 0, none⟩ (.slice A1 xs.length c1)) := hbw.setCell (Nat.le_refl _) _
    generalize W.setCell ⟨w.heap.size, 0, none⟩ (.slice A1 xs.length c1) = W3 at *
    have hg3 := grownBy_putObj' W3 D (.deferred none)
    have e2 : (W3.putObj D (.deferred none)).cell? ⟨w.heap.size, 0, none⟩ = some (.slice A1 xs.length c1) := (show boxS (W3.putObj D (.deferred none)) w.heap.size _ from blk_grown e1 hg3 (fun e => by injection e with e; omega)).cell.1
    refine ⟨by simp, .inl ⟨_, _, rfl, run_takeDeferred hK2, ?_⟩⟩
    refine ⟨.slice A1 xs.length c1, ?_, .slice A1 xs.length c1, rfl, ?_, ?_⟩
    · simp [results, Tryd.results12, go_sem, e2]
    · rw [← HXS.out]
      refine nw_grown hv2 hg3 (fun k e e2 => ?_)
      injection e with e
      obtain ⟨_, cells, hk⟩ := nw_block hv2 k e2.symm
      rw [← e, hK2] at hk
      cases hk
    · exact hb2.grown hg3 hb2.size (fun k e => by injection e with e; omega)
  case stop =>
    rintro D c pre W _ _ h
    exact h.elim

set_option maxRecDepth 100000 in
set_option maxHeartbeats 2000000 in
theorem base_no (A : Option Addr) (c : Nat) (l : List Nat) (b : Nat) (w : World) (hr : Rw w A l) (hm : May l) (hc : l.length ≤ c) (hb2 : b < 2) :
    Calls Tryd.prog 12 #[.slice A l.length c, .int .u64 (b : Int)] w fun e w' => ∃ v, e = .returned v ∧ Nw w' w.heap.size v [] ∧ Below w.heap.size w w' := by
  have HM := Lib.hid (fun w hr => may_call A c l w hr (by have := hm.1; omega))
  have emay : mayB l = true := decide_eq_true hm
  rw [emay] at HM
  have HR := Lib.hid hr
  have hlt : decide ((b : Int) < 2) = true := decide_eq_true (by omega)
  clear hr emay
  go_enter Tryd.func12, Tryd.ntmps12
  go_wp2_with (go_at_call 20; refine (HM.out _ (HR.out.below ((Below.refl _ _).alloc (Nat.le_refl _) _))).mono ?_; rintro e w' ⟨rfl, rfl⟩)
  refine bodyPost_ret (v := .slice none 0 0) (by simp [results, Tryd.results12, go_sem]) rfl ?_
  exact ⟨_, rfl, Nw.nil _ _, (Below.refl _ w).alloc (Nat.le_refl _) _⟩
end Go.Proofs.YtgdlkpfkaehebaaDoor.Bs
