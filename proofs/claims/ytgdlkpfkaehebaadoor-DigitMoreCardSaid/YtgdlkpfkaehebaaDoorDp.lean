/- The walks of DigitBack and DigitZeros. -/
import Derived.Test.YtgdlkpfkaehebaaDoorDo
import Derived.Test.YtgdlkpfkaehebaaDoorPz
set_option linter.unusedVariables false
set_option linter.unusedSimpArgs false
namespace Go.Proofs.YtgdlkpfkaehebaaDoor.Dp
open Go Go.RowKit Go.Proofs.YtgdlkpfkaehebaaDoorW.PrintWords Go.Proofs.YtgdlkpfkaehebaaDoorW.PrintLast Go.Proofs.YtgdlkpfkaehebaaDoorW.PrintMore
open Nt Lm Bs Pr Ra Do Fr Pz

theorem text_ne (u : Nat) : text u ≠ [] := by
  unfold text
  split
  · simp
  · exact decT_ne (by omega)
theorem ok_text (u : Nat) : okS (text u) = true := by
  have h1 : (text u).isEmpty = false := by simpa using text_ne u
  unfold okS
  rw [h1, text_digs]
  by_cases h : 1 < (text u).length
  · have := text_head h
    have e : ((text u).head? == some 48) = false := by simpa using this
    simp [e]
  · simp [h]
theorem parse_text {u : Nat} (h : u < B8) : parseE (text u) = 0 ∧ parseL (text u) = ofN u := by
  have hlen := text_small h
  obtain ⟨h1, _⟩ := chunks_spec _ (text u) rfl (text_digs u)
  rw [decV_text] at h1
  unfold parseE parseL
  rw [if_neg (by rw [ok_text]; simp), if_neg (by omega), if_neg (by rw [ok_text]; simp), if_neg (by omega)]
  unfold fromE fromL
  rw [h1, if_pos h, if_pos h]
  exact ⟨rfl, rfl⟩
theorem from_digs {b u : Nat} (hb : 2 ≤ b) (h : u < B8) : fromE b (digs b u) = 0 ∧ fromL b (digs b u) = ofN u := by
  unfold fromE fromL
  rw [unb_digs hb, if_pos h, if_pos h]
  exact ⟨rfl, rfl⟩
theorem val_lt8 {l : List Nat} (hm : l.length ≤ 8) (hl : Lim l) : val l < B8 := Nat.lt_of_lt_of_le (val_lt hl) (Nat.pow_le_pow_right (by omega) hm)

set_option maxHeartbeats 2000000 in
set_option maxRecDepth 100000 in
theorem back_walk (v0 : Value) (l0 : List Int) (b : Int) (W : World) (hpow : Fu.Pow W) (R0 : Rd.Reads W (.sl (.int .u64)) [v0] l0) (hb : (Lit.int .u64 b).wf = true) :
    Calls Tryd.prog 7 #[v0, .int .u64 b] W fun e W' => e = .returned (.bool true) ∧ Below W.heap.size W W' := by
  obtain ⟨A, c, a, rfl, hc, hr, hla, hl⟩ := arg_rw R0
  obtain ⟨b, rfl, hb64⟩ := wf_u64 hb
  obtain ⟨hmx, hlx, h8x⟩ := held_may hla
  have HA := Lib.hid (held_call A c a W hr hc hl)
  obtain ⟨x, hx⟩ : ∃ x, x = trimF (a.take 8) := ⟨_, rfl⟩
  rw [← hx] at HA hmx hlx h8x
  have HPOW := Lib.hid hpow
  obtain ⟨u, hu⟩ : ∃ u, u = val x := ⟨_, rfl⟩
  have hu8 : u < B8 := by rw [hu]; exact val_lt8 h8x hlx
  have hxu : ofN u = x := by rw [hu]; exact (may_ofN hmx hlx).symm
  obtain ⟨p1, p2⟩ := parse_text hu8
  rw [hxu] at p2
  have HPA := Lib.hid (fun w => parse_ok (ba (text u)) w (by rw [ba_size]; have := text_small hu8; omega) (by rw [ba_list]; exact ok_text u))
  rw [ba_list, p1, p2] at HPA
  have HPR := Lib.hid (fun A1 c1 w1 h1 h2 h3 => print_call A1 c1 x w1 h1 hmx hlx h2 h3)
  rw [← hu] at HPR
  have hds : ∀ (hb2 : 2 ≤ b), fromE b (digs b u) = 0 ∧ fromL b (digs b u) = x := fun hb2 => by rw [← hxu]; exact from_digs hb2 hu8
  have HDS := Lib.hid hds
  have hbase : ∀ (hb2 : 2 ≤ b) A1 c1 w, Rw w A1 x → x.length ≤ c1 → Calls Tryd.prog 12 #[.slice A1 x.length c1, .int .u64 (b : Int)] w fun e w' => ∃ v, e = .returned v ∧ Nw w' w.heap.size v (digs b u) ∧ Below w.heap.size w w' := by
    intro hb2 A1 c1 w h1 h2
    have := base_call A1 c1 x b w h1 hmx hlx h2 hb2 hb64
    rw [← hu] at this
    exact this
  have HBASE := Lib.hid hbase
  have HNO := Lib.hid (fun (hb2 : b < 2) A1 c1 w h1 h2 => base_no A1 c1 x b w h1 hmx h2 hb2)
  have HLEN := Lib.hid (fun (hb2 : 2 ≤ b) => digsb_len hb2 hu8)
  obtain ⟨s, hs⟩ : ∃ s, s = ba (text u) := ⟨_, rfl⟩
  simp only [← hs] at HPA HPR
  clear R0 hr hl hla hx hpow hmx hlx hs hu hu8 hxu p1 p2 hds hbase hb
  go_enter Tryd.func7, Tryd.ntmps7
  go_wp2_with fail
  refine (HA.out).mono ?_
  rintro e w1 ⟨vx, rfl, hvx, hb1⟩
  obtain ⟨A1, c1, rfl, hc1, hr1⟩ := hvx.open
  have HR1 := Lib.hid hr1
  have HB1 := Lib.hid hb1
  clear hvx hr1 hb1
  go_wp2_with fail
  refine (HPR.out A1 c1 w1 HR1.out hc1 (pow_below HPOW.out HB1.out)).mono ?_
  rintro e w2 ⟨rfl, hb2⟩
  have HR2 := Lib.hid (HR1.out.below hb2)
  have HB2 := Lib.hid (HB1.out.trans (hb2.mono HB1.out.size))
  clear hb2 HR1 HB1
  go_wp2_with fail
  refine (HPA.out w2).mono ?_
  rintro e w3 ⟨v, rfl, hv, hb3⟩
  obtain ⟨A2, c2, rfl, hc2, hr2⟩ := hv.open
  have HRV := Lib.hid hr2
  have HR3 := Lib.hid (HR2.out.below hb3)
  have HB3 := Lib.hid (HB2.out.trans (hb3.mono HB2.out.size))
  clear hv hr2 hb3 HR2 HB2
  have HSAME := Lib.hid (same_call A2 A1 c2 c1 x x w3 HRV.out HR3.out (by omega) (by omega))
  rw [decide_eq_true rfl] at HSAME
  go_wp2_with fail
  refine (HSAME.out).mono ?_
  rintro e w4 ⟨rfl, hb4⟩
  have HR4 := Lib.hid (HR3.out.below hb4)
  have HB4 := Lib.hid (HB3.out.trans (hb4.mono HB3.out.size))
  clear hb4 HR3 HB3 HSAME HRV
  go_wp2_with fail
  refine (shown_call w4 (pow_below HPOW.out HB4.out)).mono ?_
  rintro e w5 ⟨rfl, hb5⟩
  have HR5 := Lib.hid (HR4.out.below hb5)
  have HB5 := Lib.hid (HB4.out.trans (hb5.mono HB4.out.size))
  clear hb5 HR4 HB4
  by_cases hb2 : b < 2
  · have hb2' : (b : Int) < 2 := by omega
    go_wp2_with fail
    refine (HNO.out hb2 A1 c1 w5 HR5.out hc1).mono ?_
    rintro e w6 ⟨v, rfl, hv, hb6⟩
    obtain ⟨A3, c3, rfl, hc3, hr3⟩ := hv.open
    have HB6 := Lib.hid (HB5.out.trans (hb6.mono HB5.out.size))
    clear hv hr3 hb6
    go_wp2_with fail
    go_ret
    exact ⟨rfl, HB6.out⟩
  · have hb2' : ¬ (b : Int) < 2 := by omega
    have hb3 : 2 ≤ b := by omega
    go_wp2_with fail
    refine (HBASE.out hb3 A1 c1 w5 HR5.out hc1).mono ?_
    rintro e w6 ⟨v, rfl, hv, hb6⟩
    obtain ⟨A3, c3, rfl, hc3, hr3⟩ := hv.open
    have HRL := Lib.hid hr3
    have HR6 := Lib.hid (HR5.out.below hb6)
    have HB6 := Lib.hid (HB5.out.trans (hb6.mono HB5.out.size))
    clear hv hr3 hb6 HR5 HB5
    obtain ⟨q1, q2⟩ := HDS.out hb3
    have HF := Lib.hid (from_call A3 c3 (digs b u) b w6 HRL.out hc3 hb3 hb64 (Nat.le_trans (HLEN.out hb3) (by omega)) (digs_lt hb3 u))
    rw [q1, q2] at HF
    have hlen := HLEN.out hb3
    obtain ⟨D, hD⟩ : ∃ D, D = digs b u := ⟨_, rfl⟩
    simp only [← hD] at *
    clear hD q1 q2
    go_wp2_with fail
    refine (HF.out).mono ?_
    rintro e w7 ⟨v, rfl, hv, hb7⟩
    obtain ⟨A4, c4, rfl, hc4, hr4⟩ := hv.open
    have HR7 := Lib.hid (HR6.out.below hb7)
    have HB7 := Lib.hid (HB6.out.trans (hb7.mono HB6.out.size))
    have HSAME := Lib.hid (same_call A4 A1 c4 c1 x x w7 hr4 HR7.out (by omega) (by omega))
    rw [decide_eq_true rfl] at HSAME
    clear hv hr4 hb7
    go_wp2_with fail
    refine (HSAME.out).mono ?_
    rintro e w8 ⟨rfl, hb8⟩
    have HB8 := Lib.hid (HB7.out.trans (hb8.mono HB7.out.size))
    clear hb8
    go_wp2_with fail
    go_ret
    exact ⟨rfl, HB8.out⟩
end Go.Proofs.YtgdlkpfkaehebaaDoor.Dp
