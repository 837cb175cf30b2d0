/- The document's Digits, Whole, Add. -/
import Derived.Test.YtgdlkpfkaehebaaGreatDoorDq
set_option linter.unusedVariables false
set_option linter.unusedSimpArgs false
namespace Go.Proofs.YtgdlkpfkaehebaaGreatDoor.Rm
open Go Go.RowKit Go.Proofs.YtgdlkpfkaehebaaGreatDoorW.PrintWords Go.Proofs.YtgdlkpfkaehebaaGreatDoorW.PrintLast Go.Proofs.YtgdlkpfkaehebaaGreatDoorW.PrintMore
open Nt Lm Bs Pr Ra Do Fr Pz Dp Dq

theorem nums_own2 {W : World} {lo n : Nat} {v : Value} {l : List Nat} {y z : Nat} (hn : n = l.length + 2) (h : W.ownsRow lo 31 1 v n (encs (Value.int .u64) (ints l) ++ [.int .u64 (y : Int), .int .u64 (z : Int)])) : Nw W lo v (l ++ [y, z]) := by
  refine Kd.R_of_own ?_ (fun _ _ => trivial)
  have e : encs (Value.int .u64) (ints (l ++ [y, z])) = encs (Value.int .u64) (ints l) ++ [.int .u64 (y : Int), .int .u64 (z : Int)] := by rw [ints_app]; simp [encs, ints]
  rw [e, ints_len, List.length_append]
  subst hn
  exact h
theorem halves_take {l : List Nat} {i : Nat} (h : i < l.length) : halves (l.take (i + 1)) = halves (l.take i) ++ [atL l i % 4294967296, atL l i / 4294967296] := by
  rw [take_at h, halves_append]; rfl

set_option maxHeartbeats 4000000 in
set_option maxRecDepth 100000 in
theorem digits_call (A : Option Addr) (c : Nat) (l : List Nat) (w : World) (hr : Rw w A l) (hl : l.length ≤ 900) (hlim : Lim l) :
    Calls Tryz.prog 61 #[.slice A l.length c] w fun e w' => ∃ v, e = .returned v ∧ Nw w' w.heap.size v (halves l) ∧ Below w.heap.size w w' := by
  have HR := Lib.hid hr
  have HLIM := Lib.hid hlim
  obtain ⟨i0, hi, hz0, hz1, hz2⟩ := info_parts Cl.infoU
  have HI := Lib.hid hi
  clear hr hlim hi
  go_enter Tryz.func61, Tryz.ntmps61
  go_wp2
  go_loopw [3, 4] (fun u v wr => ∃ i : Nat, i ≤ l.length ∧ v = .int .i64 (i : Int) ∧ Hid (Nw wr w.heap.size u (halves (l.take i))) ∧ Hid (Below w.heap.size w wr)) (fun _ v _ => l.length - (intOf v).toNat)
  case atStart => exact ⟨0, by omega, rfl, Lib.hid (Nw.lit0 _ _ (Nat.le_refl _)), Lib.hid (below_alloc (Below.refl _ _) _)⟩
  case round =>
    obtain ⟨i, hi, rfl, hv, hB⟩ := hrel
    obtain ⟨A5, c5, rfl, hc5, hr5⟩ := hv.out.open
    clear hr5
    by_cases hil : i < l.length
    · obtain ⟨ad, e, hx⟩ := HR.out.at i hil
      cases e
      replace hx := (hB.out.cell (World.block_lt_of_cell? w _ hx)).trans hx
      have hil' : (i : Int) < (l.length : Int) := by omega
      have hht := halves_take hil
      have hxl := atL_lt_of HLIM.out i
      obtain ⟨x, hxx⟩ : ∃ x, x = atL l i := ⟨_, rfl⟩
      rw [← hxx] at hx hht hxl
      have hpl : (halves (l.take i)).length = 2 * i := by rw [halves_len, List.length_take]; omega
      obtain ⟨pre, hpre⟩ : ∃ p, p = halves (l.take i) := ⟨_, rfl⟩
      rw [← hpre] at hv hht hpl hc5
      have hq1 : (x : Int) % 4294967296 = ((x % 4294967296 : Nat) : Int) := by omega
      have hq2 : (x : Int) / 4294967296 = ((x / 4294967296 : Nat) : Int) := by omega
      obtain ⟨y, hy⟩ : ∃ y, y = x % 4294967296 := ⟨_, rfl⟩
      obtain ⟨z, hz⟩ : ∃ z, z = x / 4294967296 := ⟨_, rfl⟩
      rw [← hy] at hq1 hht
      rw [← hz] at hq2 hht
      have hq3 : (x : Int).tmod 4294967296 = (y : Int) := by rw [Int.tmod_eq_emod_of_nonneg (by omega)]; exact hq1
      have hq4 : (x : Int).tdiv 4294967296 = (z : Int) := by rw [Int.tdiv_eq_ediv_of_nonneg (by omega)]; exact hq2
      have hq5 : IntKind.u64.wrap (z : Int) = (z : Int) := IntWalk.u64_in _ (by omega)
      have HHT := Lib.hid hht
      simp only [← hpre]
      have HOWN := Lib.hid ((own_nums hv.out).alloc (.cells #[.int .u64 (y : Int), .int .u64 (z : Int)] 31))
      have hszw : w.heap.size ≤ wr.heap.size := hB.out.size
      have HPL := Lib.hid hpl
      have hple : pre.length ≤ 2000 := by omega
      clear hht hxx hpre hpl hv hy hz hxl
      go_wp2_with fail
      go_region_law (refine step_append_lies _ (by rfl) _ _ 23 (by rfl) w.heap.size 31 i0 (.int .u64 0) 1 8 Tryz.underlying23 HI.out hz0 hz1 hz2 rfl (by omega) (.slice A5 pre.length c5) pre.length _ (by rfl) HOWN.out ⟨wr.heap.size, 0, none⟩ 2 2 [.int .u64 (y : Int), .int .u64 (z : Int)] (by rfl) (by rfl) (World.news_of_block (cs := #[.int .u64 (y : Int), .int .u64 (z : Int)]) (t := 31) (fr := (0, 0)) (heap_alloc_new wr _)) (by simp [Value.oneCell']) (by omega) (by unfold maxLen; omega) (by omega) (by simp; omega) (wr.heap.size + 1) (by simp) ?_; intro g1 cap1 w3 hown3 hgrow3 hat3 hlt3)
      have hg3 : (wr.alloc (.cells #[.int .u64 (y : Int), .int .u64 (z : Int)] 31)).grownBy w3 (Value.slice A5 pre.length c5).ownBlock := ⟨hgrow3.os, hgrow3.tape, hgrow3.output, hgrow3.size, hgrow3.block⟩
      have hnext := nums_own2 rfl hown3
      rw [← HHT.out] at hnext
      have HNEXT := Lib.hid hnext
      have HBEL := Lib.hid ((hB.out.alloc hszw _).grown hg3 (by simp; omega) (fun q e => own_base HOWN.out q e))
      clear hg3 hnext hown3 hgrow3 hat3 hlt3
      go_wp2_with fail
      go_roundw
      case rel => exact ⟨i + 1, by omega, by go_num, HNEXT, HBEL⟩
      case measure => simp [intOf]; omega
      case roundEnd =>
        have hg3 : (wr.alloc (.cells #[.int .u64 (y : Int), .int .u64 (z : Int)] 31)).grownBy w3 (Value.slice A5 pre.length c5).ownBlock := ⟨hgrow3.os, hgrow3.tape, hgrow3.output, hgrow3.size, hgrow3.block⟩
        have hnext := nums_own2 rfl hown3
        rw [← HHT.out] at hnext
        have HNEXT := Lib.hid hnext
        have HBEL := Lib.hid ((hB.out.alloc hszw _).grown hg3 (by simp; omega) (fun q e => own_base HOWN.out q e))
        clear hg3 hnext hown3 hgrow3 hat3 hlt3
        exact ⟨⟨i + 1, by omega, by go_num, HNEXT, HBEL⟩, by simp [intOf]; omega⟩
    · have hil' : ¬ (i : Int) < (l.length : Int) := by omega
      obtain rfl : i = l.length := by omega
      have hv2 := hv.out
      rw [List.take_length] at hv2
      have HV := Lib.hid hv2
      rw [List.take_length] at *
      clear hv hv2
      go_wp2_with fail
      go_ret
      exact ⟨_, rfl, HV.out, hB.out⟩

theorem whole_two {d : List Nat} {i : Nat} (h : i + 1 < d.length) : wholeL (d.drop i) = (atL d i + atL d (i + 1) * 4294967296) :: wholeL (d.drop (i + 2)) := by
  have e : ∀ k, k < d.length → d.drop k = atL d k :: d.drop (k + 1) := fun k hk => by
    rw [List.drop_eq_getElem_cons hk]
    congr 1
    unfold atL
    rw [List.getD_eq_getElem?_getD, List.getElem?_eq_getElem hk]; rfl
  rw [e i (by omega), e (i + 1) h]
  rfl
theorem whole_one {d : List Nat} {i : Nat} (h : i < d.length) (h2 : ¬ i + 1 < d.length) : wholeL (d.drop i) = [atL d i] := by
  have e : d.drop i = atL d i :: d.drop (i + 1) := by
    rw [List.drop_eq_getElem_cons h]
    congr 1
    unfold atL
    rw [List.getD_eq_getElem?_getD, List.getElem?_eq_getElem h]; rfl
  rw [e, List.drop_eq_nil_of_le (by omega)]
  rfl
theorem whole_len : ∀ (n : Nat) (d : List Nat), d.length ≤ n → (wholeL d).length ≤ d.length := by
  intro n
  induction n with
  | zero => intro d hd; rw [List.eq_nil_of_length_eq_zero (by omega : d.length = 0)]; simp [wholeL]
  | succ n ih =>
    intro d hd
    match d with
    | [] => simp [wholeL]
    | [a] => simp [wholeL]
    | a :: b :: l =>
      have := ih l (by simp at hd; omega)
      simp only [wholeL, List.length_cons]
      omega

set_option maxHeartbeats 4000000 in
set_option maxRecDepth 100000 in
theorem whole_call (A : Option Addr) (c : Nat) (d : List Nat) (w : World) (hr : Rw w A d) (hl : d.length ≤ 4000) (hd : ∀ x ∈ d, x < 4294967296) :
    Calls Tryz.prog 63 #[.slice A d.length c] w fun e w' => ∃ v, e = .returned v ∧ Nw w' w.heap.size v (ofN (unb 4294967296 d)) ∧ Below w.heap.size w w' := by
  have HR := Lib.hid hr
  have HD := Lib.hid (atL_lt (by decide) hd)
  have HT := Lib.hid (trim_whole hd)
  have HWL := Lib.hid (whole_len _ d (Nat.le_refl _))
  clear hr hd
  go_enter Tryz.func63, Tryz.ntmps63
  go_wp2
  go_loopw [3, 4] (fun u v wr => ∃ (i : Nat) (pre : List Nat), i ≤ d.length + 1 ∧ pre.length ≤ i ∧ v = .int .i64 (i : Int) ∧ Hid (wholeL d = pre ++ wholeL (d.drop i)) ∧ Hid (Nw wr w.heap.size u pre) ∧ Hid (Below w.heap.size w wr)) (fun _ v _ => d.length + 2 - (intOf v).toNat)
  case atStart => exact ⟨0, [], by omega, by simp, rfl, Lib.hid rfl, Lib.hid (Nw.lit0 _ _ (Nat.le_refl _)), Lib.hid (below_alloc (Below.refl _ _) _)⟩
  case round =>
    obtain ⟨i, pre, hi, hpi, rfl, hq, hv, hB⟩ := hrel
    obtain ⟨A5, c5, rfl, hc5, hr5⟩ := hv.out.open
    by_cases hil : i < d.length
    · obtain ⟨ad, e, hx⟩ := HR.out.at i hil
      cases e
      replace hx := (hB.out.cell (World.block_lt_of_cell? w _ hx)).trans hx
      have hil' : (i : Int) < (d.length : Int) := by omega
      have hxl := HD.out i
      by_cases hi1 : i + 1 < d.length
      · obtain ⟨ad', e, hy⟩ := HR.out.at (i + 1) hi1
        cases e
        replace hy := (hB.out.cell (World.block_lt_of_cell? w _ hy)).trans hy
        obtain ⟨j, hj⟩ : ∃ j, j = i + 1 := ⟨_, rfl⟩
        rw [← hj] at hy
        have hj1 : (i : Int) + 1 = (j : Int) := by omega
        have hil1 : (j : Int) < (d.length : Int) := by omega
        have hyl := HD.out (i + 1)
        have hw2 := whole_two hi1
        obtain ⟨x, hxx⟩ : ∃ x, x = atL d i := ⟨_, rfl⟩
        rw [← hj] at hyl hw2
        obtain ⟨y, hyy⟩ : ∃ x, x = atL d j := ⟨_, rfl⟩
        rw [← hxx] at hx hxl hw2
        rw [← hyy] at hy hyl hw2
        obtain ⟨z, hz⟩ : ∃ z, z = x + y * 4294967296 := ⟨_, rfl⟩
        have hm1 : IntKind.u64.wrap ((y : Int) * 4294967296) = (y : Int) * 4294967296 := IntWalk.u64_in _ (by omega)
        have hm2 : (x : Int) + (y : Int) * 4294967296 = (z : Int) := by omega
        have hm3 : IntKind.u64.wrap (z : Int) = (z : Int) := IntWalk.u64_in _ (by omega)
        rw [← hz] at hw2
        have HQ := Lib.hid (show wholeL d = (pre ++ [z]) ++ wholeL (d.drop (i + 2)) by rw [hq.out, hw2, List.append_assoc]; rfl)
        clear hw2 hxx hyy hz hq hr5 hj
        go_wp2_with (at_builtin; refine app_n (w0 := w) w.heap.size rfl _ _ rfl (.slice A5 pre.length c5) pre [z] (some ⟨wr.heap.size, 0, none⟩) 1 rfl rfl (hv.out.below (below_alloc (Below.refl _ _) _)) (Rw.one wr z) (hB.out.alloc hB.out.size _) (by have := hB.out.size; simp; omega) (by simp; omega) ?_; intro vv w1 hv1 hb1 hg1 hat1; have HV4 := Lib.hid hv1; have HB4 := Lib.hid hb1; clear hv1 hb1 hg1 hat1)
        go_roundw
        case rel => exact ⟨i + 2, pre ++ [z], by omega, by simp; omega, by go_num, HQ, HV4, HB4⟩
        case measure => simp [intOf]; omega
      · have hil1 : ¬ (i : Int) + 1 < (d.length : Int) := by omega
        have hw2 := whole_one hil hi1
        obtain ⟨x, hxx⟩ : ∃ x, x = atL d i := ⟨_, rfl⟩
        rw [← hxx] at hx hxl hw2
        have HQ := Lib.hid (show wholeL d = (pre ++ [x]) ++ wholeL (d.drop (i + 2)) by rw [hq.out, hw2, List.drop_eq_nil_of_le (by omega)]; simp [wholeL])
        clear hw2 hxx hq hr5
        go_wp2_with (at_builtin; refine app_n (w0 := w) w.heap.size rfl _ _ rfl (.slice A5 pre.length c5) pre [x] (some ⟨wr.heap.size, 0, none⟩) 1 rfl rfl (hv.out.below (below_alloc (Below.refl _ _) _)) (Rw.one wr x) (hB.out.alloc hB.out.size _) (by have := hB.out.size; simp; omega) (by simp; omega) ?_; intro vv w1 hv1 hb1 hg1 hat1; have HV4 := Lib.hid hv1; have HB4 := Lib.hid hb1; clear hv1 hb1 hg1 hat1)
        go_roundw
        case rel => exact ⟨i + 2, pre ++ [x], by omega, by simp; omega, by go_num, HQ, HV4, HB4⟩
        case measure => simp [intOf]; omega
    · have hil' : ¬ (i : Int) < (d.length : Int) := by omega
      have e := hq.out
      rw [List.drop_eq_nil_of_le (by omega)] at e
      have e2 : wholeL d = pre := by rw [e]; simp [wholeL]
      have HTR := trimR_call A5 c5 pre wr hr5 hc5 (by omega)
      rw [← e2, HT.out, e2] at HTR
      have HTT := Lib.hid HTR
      clear hr5 HTR e e2
      go_wp2_with fail
      refine (HTT.out).mono ?_
      rintro e w2 ⟨v, rfl, hv2, hb2⟩
      have HV := Lib.hid (hv2.lower hB.out.size)
      have HB2 := Lib.hid (hB.out.trans (hb2.mono hB.out.size))
      clear hv2 hb2
      go_wp2_with fail
      go_ret
      exact ⟨_, rfl, HV.out, HB2.out⟩
end Go.Proofs.YtgdlkpfkaehebaaGreatDoor.Rm
