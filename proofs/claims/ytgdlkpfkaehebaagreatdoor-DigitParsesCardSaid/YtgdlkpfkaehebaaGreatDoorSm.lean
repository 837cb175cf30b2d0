/- quot.Small: a natural divided by a limb. -/
import Derived.Test.YtgdlkpfkaehebaaGreatDoorLm
import Derived.Test.YtgdlkpfkaehebaaGreatDoorDv
set_option linter.unusedVariables false
namespace Go.Proofs.YtgdlkpfkaehebaaGreatDoor.Sm
open Go Go.RowKit Go.Proofs.YtgdlkpfkaehebaaGreatDoorW.PrintWords Go.Proofs.YtgdlkpfkaehebaaGreatDoorW.PrintLast Go.Proofs.YtgdlkpfkaehebaaGreatDoorW.PrintMore
open Nt Lm

theorem small_lt {n : Nat} (hn : 0 < n) (l : List Nat) : (smallL n l).2 < n := by rw [(small_spec hn l).2]; exact Nat.mod_lt _ hn
theorem small_drop (n : Nat) (l : List Nat) (k : Nat) (hk : k < l.length) : smallL n (l.drop k) = (((smallL n (l.drop (k + 1))).2 * 18446744073709551616 + atL l k) / n :: (smallL n (l.drop (k + 1))).1, ((smallL n (l.drop (k + 1))).2 * 18446744073709551616 + atL l k) % n) := by
  rw [List.drop_eq_getElem_cons hk]
  have : l[k] = atL l k := by unfold atL; rw [List.getD_eq_getElem?_getD, List.getElem?_eq_getElem hk]; rfl
  rw [this]
  rfl
theorem set_rep (k x : Nat) (m : List Nat) : (List.replicate (k + 1) 0 ++ m).set k x = List.replicate k 0 ++ x :: m := by
  rw [List.replicate_succ', List.append_assoc, List.set_append_right _ _ (by simp)]
  simp

set_option maxHeartbeats 4000000 in
set_option maxRecDepth 100000 in
theorem small_call (A : Option Addr) (c : Nat) (l : List Nat) (n : Nat) (w : World) (hr : Rw w A l) (hm : May l) (hlim : Lim l) (hn : 0 < n) (hn64 : n < 18446744073709551616) :
    Calls Tryz.prog 36 #[.slice A l.length c, .int .u64 (n : Int)] w fun e w' => ∃ v, e = .returned (.tuple #[v, .int .u64 ((val l % n : Nat) : Int), .int .i64 0]) ∧ Nw w' w.heap.size v (ofN (val l / n)) ∧ Below w.heap.size w w' := by
  have hl8 := hm.1
  have HM := Lib.hid (may_call A c l w hr (by omega))
  have emay : mayB l = true := decide_eq_true hm
  rw [emay] at HM
  have HR := Lib.hid hr
  have n0 : ((n : Int) == 0) = false := by simp; omega
  have HT := Lib.hid (small_trim hn hlim)
  have HS := Lib.hid (small_spec hn l).2
  have HLEN := Lib.hid (small_len n l)
  rw [← HS.out, ← HT.out]
  clear hr emay
  go_enter Tryz.func36, Tryz.ntmps36
  go_wp2_with (first
    | (go_at_call 14; refine (HM.out).mono ?_; rintro e w' ⟨rfl, rfl⟩)
    | ((with_reducible refine gate_dst (N := 19) rfl ?_)
       refine make_n (w0 := w) w.heap.size rfl rfl (.tmp 18) (.tmp 18) rfl l.length rfl rfl (by omega) (Below.refl _ _) (Nat.le_refl _) ?_
       intro v1 w1 hv1 hb1 hg1 hnew1
       obtain ⟨A1, c1, rfl, hc1, -⟩ := hv1.open
       rw [List.length_replicate] at *))
  have HV := Lib.hid hv1
  have HB1 := Lib.hid hb1
  have HL := Lib.hid hlim
  have hw1 := hb1.size
  clear hv1 hb1 hg1 hnew1 HM hm HT HS hlim
  have hi0 : IntKind.i64.wrap ((l.length : Int) - 1) = (l.length : Int) - 1 := IntWalk.i64_in _ (by omega)
  go_loopw [8, 9] (fun r i wr => ∃ (j : Nat) (iv : Int), i = .int .i64 iv ∧ iv + 1 = (j : Int) ∧ j ≤ l.length ∧ r = .int .u64 ((smallL n (l.drop j)).2 : Nat) ∧ Hid (Nw wr w.heap.size (.slice A1 l.length c1) (List.replicate j 0 ++ (smallL n (l.drop j)).1)) ∧ Hid (Below w.heap.size w wr)) (fun _ i _ => ((intOf i) + 1).toNat)
  case atStart =>
    refine ⟨l.length, (l.length : Int) - 1, by first | rfl | (rw [hi0]), by omega, Nat.le_refl _, ?_, ?_, HB1⟩
    · rw [List.drop_length]; rfl
    · rw [List.drop_length]; simp only [smallL, List.append_nil]; exact HV
  case round =>
    obtain ⟨j, iv, rfl, hiv, hj, rfl, hv, hb⟩ := hrel
    clear hi0
    rcases j with _ | k
    · obtain rfl : iv = -1 := by omega
      have hq := hv.out
      simp only [List.drop_zero, List.replicate_zero, List.nil_append] at hq ⊢
      obtain ⟨A2, c2, e2, hc2, hr2⟩ := hq.open
      injection e2 with e3 e4 e5
      subst e3 e5
      have HT := Lib.hid (Trim_call A1 c1 (smallL n l).1 wr hr2 hc2 (by rw [HLEN.out]; omega))
      rw [HLEN.out] at HT
      obtain ⟨rr, hrr⟩ : ∃ x, x = (smallL n l).2 := ⟨_, rfl⟩
      rw [← hrr]
      have HRR := Lib.hid hrr
      clear hq hr2 hrr e4
      go_wp2_with (go_at_call 57; refine (HT.out).mono ?_; rintro e w' ⟨v, rfl, hv2, hb2⟩)
      refine bodyPost_ret (v := .tuple #[v, .int .u64 (rr : Int), .int .i64 0]) (by simp [results, Tryz.results36, go_sem]) rfl ?_
      rw [← HRR.out]
      exact ⟨v, rfl, hv2.lower hb.out.size, hb.out.trans (hb2.mono hb.out.size)⟩
    · obtain rfl : iv = (k : Int) := by omega
      obtain ⟨ad, e, hx⟩ := (HR.out.below hb.out).at k (by omega)
      cases e
      obtain ⟨g, cap, e2, hg1, hg2⟩ := hv.out.form (by simp only [List.length_append, List.length_replicate]; omega)
      injection e2 with e3 e4 e5
      subst e3 e5
      obtain ⟨r, hrr⟩ : ∃ x, x = (smallL n (l.drop (k + 1))).2 := ⟨_, rfl⟩
      have hrn : r < n := by rw [hrr]; exact small_lt hn _
      have hxl : atL l k < 18446744073709551616 := atL_lt_of HL.out k
      have hsd := small_drop n l k (by omega)
      rw [← hrr] at hsd ⊢
      have HD := Lib.hid (Dv.div64_call r (atL l k) n hn64 hrn hxl)
      obtain ⟨xk, hxk⟩ : ∃ x, x = atL l k := ⟨_, rfl⟩
      rw [← hxk] at hsd hx HD
      obtain ⟨qd, hqd⟩ : ∃ x, x = (r * 18446744073709551616 + xk) / n := ⟨_, rfl⟩
      obtain ⟨rd', hrd⟩ : ∃ x, x = (r * 18446744073709551616 + xk) % n := ⟨_, rfl⟩
      rw [← hqd, ← hrd] at hsd HD
      obtain ⟨z1, z2⟩ := hv.out.cell k (by omega)
      have HSD := Lib.hid hsd
      have HRR := Lib.hid hrr
      clear hsd hxk hqd hrd hrr hxl e4
      obtain ⟨zv, hzv⟩ : ∃ x, x = atL (List.replicate (k + 1) 0 ++ (smallL n (l.drop (k + 1))).1) k := ⟨_, rfl⟩
      rw [← hzv] at z1
      clear hzv
      go_wp2_with (go_at_call 64; refine (HD.out _).mono ?_; rintro e w' ⟨rfl, hb2⟩; have HB2 := Lib.hid hb2; have z3 := (hb2.cell (p := ⟨g, k, none⟩) hg2).trans z1; have z4 := (hb2.frozen (p := ⟨g, k, none⟩) hg2).trans z2; clear hb2 z1 z2)
      go_roundw
      case rel =>
        have hp := (hv.out.below HB2.out).put k qd
        rw [set_rep] at hp
        have h2 : Below w.heap.size w w' := hb.out.trans (HB2.out.mono hb.out.size)
        refine ⟨k, (k : Int) - 1, by first | rfl | go_num, by omega, by omega, ?_, ?_, Lib.hid (h2.setCell hg1 _)⟩
        · rw [HSD.out]
        · rw [HSD.out]; exact Lib.hid hp.1
      case measure => simp [intOf]
end Go.Proofs.YtgdlkpfkaehebaaGreatDoor.Sm
