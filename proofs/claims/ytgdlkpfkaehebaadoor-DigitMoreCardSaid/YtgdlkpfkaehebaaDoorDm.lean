/- The walk of DigitMore. -/
import Derived.Test.YtgdlkpfkaehebaaDoorRo
import Derived.Stop.RegionWithIn
set_option linter.unusedVariables false
set_option linter.unusedSimpArgs false
namespace Go.Proofs.YtgdlkpfkaehebaaDoor.Dm
open Go Go.RowKit Go.Proofs.YtgdlkpfkaehebaaDoorW.PrintWords Go.Proofs.YtgdlkpfkaehebaaDoorW.PrintLast Go.Proofs.YtgdlkpfkaehebaaDoorW.PrintMore
open Nt Lm Bs Pr Ra Do Fr Pz Dp Dq Rm Rn Ro

theorem text_snoc {u k : Nat} (hu : 0 < u) (hk : k < 10) : text (u * 10 + k) = text u ++ [UInt8.ofNat (48 + k)] := by
  unfold text
  rw [if_neg (by omega), if_neg (by omega), decT_pos (by omega), show (u * 10 + k) / 10 = u by omega, show (u * 10 + k) % 10 = k by omega]
theorem parse_more {u k : Nat} (hu : 0 < u) (h : u < B8) (hk : k < 10) : parseE (text (u * 10 + k)) = (if u * 10 + k < B8 then 0 else 21) ∧ (u * 10 + k < B8 → parseL (text (u * 10 + k)) = ofN (u * 10 + k)) := by
  have hlen := text_small h
  have hl2 : (text (u * 10 + k)).length ≤ 156 := by rw [text_snoc hu hk, List.length_append]; simp; omega
  obtain ⟨h1, _⟩ := chunks_spec _ (text (u * 10 + k)) rfl (text_digs _)
  rw [decV_text] at h1
  have e1 : parseE (text (u * 10 + k)) = fromE 10000000000 (chunks (text (u * 10 + k))) := by unfold parseE; rw [if_neg (by rw [ok_text]; simp), if_neg (by omega)]
  have e2 : parseL (text (u * 10 + k)) = fromL 10000000000 (chunks (text (u * 10 + k))) := by unfold parseL; rw [if_neg (by rw [ok_text]; simp), if_neg (by omega)]
  rw [e1, e2]
  unfold fromE fromL
  rw [h1]
  exact ⟨rfl, fun h => if_pos h⟩
def digB : ByteArray := ⟨#[48, 49, 50, 51, 52, 53, 54, 55, 56, 57]⟩
theorem dig_cut (k : Nat) (hk : k < 10) : digB.extract k (k + 1) = ba [UInt8.ofNat (48 + k)] := by
  have : ∀ k : Fin 10, digB.extract k.1 (k.1 + 1) = ba [UInt8.ofNat (48 + k.1)] := by decide +kernel
  exact this ⟨k, hk⟩
theorem run_cut (k k1 : Nat) (hk : k < 10) (hk1 : k1 = k + 1) : ∀ W : World, (Instr.slice 9 (.string ⟨#[48, 49, 50, 51, 52, 53, 54, 55, 56, 57]⟩) (some (.int .u64 (k : Int))) (some (.int .u64 (k1 : Int))) none).run Tryd.prog W = .ok (.string (ba [UInt8.ofNat (48 + k)])) W := by
  intro W
  subst hk1
  rw [run_slice_string W 9 _ .u64 .u64 (k : Int) ((k + 1 : Nat) : Int) (by kernel_rfl) (by omega) (by omega) (by show ((k + 1 : Nat) : Int) ≤ 10; omega)]
  rw [← dig_cut k hk]
  simp [digB]

set_option maxHeartbeats 8000000 in
set_option maxRecDepth 100000 in
theorem more_walk (v0 : Value) (l0 : List Int) (d : Int) (W : World) (hpow : Fu.Pow W) (R0 : Rd.Reads W (.sl (.int .u64)) [v0] l0) (hd : (Lit.int .u8 d).wf = true) :
    Calls Tryd.prog 5 #[v0, .int .u8 d] W fun e W' => e = .returned (.bool true) ∧ Below W.heap.size W W' := by
  obtain ⟨A, c, a, rfl, hc, hr, hla, hl⟩ := arg_rw R0
  obtain ⟨d, rfl, hd8⟩ := wf_u8 hd
  obtain ⟨hmx, hlx, h8x⟩ := held_may hla
  have HA := Lib.hid (held_call A c a W hr hc hl)
  obtain ⟨x, hx⟩ : ∃ x, x = trimF (a.take 8) := ⟨_, rfl⟩
  rw [← hx] at HA hmx hlx h8x
  have HPOW := Lib.hid hpow
  obtain ⟨k, hk⟩ : ∃ k, k = d % 10 := ⟨_, rfl⟩
  have hk10 : k < 10 := by omega
  have hqm : (d : Int) % 10 = (k : Int) := by omega
  have hqt : (d : Int).tmod 10 = (k : Int) := by rw [Int.tmod_eq_emod_of_nonneg (by omega)]; exact hqm
  clear hx hr hl hla R0 hd hpow hk
  by_cases hx0 : x.length = 0
  · obtain rfl : x = [] := List.eq_nil_of_length_eq_zero hx0
    go_enter Tryd.func5, Tryd.ntmps5
    go_wp2_with fail
    refine (HA.out).mono ?_
    rintro e w1 ⟨vx, rfl, hvx, hb1⟩
    obtain ⟨A1, c1, rfl, hc1, hr1⟩ := hvx.open
    have HB1 := Lib.hid hb1
    clear hvx hr1 hb1
    go_wp2_with fail
    refine (shown_call w1 (pow_below HPOW.out HB1.out)).mono ?_
    rintro e w2 ⟨rfl, hb2⟩
    have HB2 := Lib.hid (HB1.out.trans (hb2.mono HB1.out.size))
    clear hb2
    go_wp2_with fail
    go_ret
    exact ⟨rfl, HB2.out⟩
  · obtain ⟨u, hu⟩ : ∃ u, u = val x := ⟨_, rfl⟩
    have hu8 : u < B8 := by rw [hu]; exact val_lt8 h8x hlx
    have hu0 : 0 < u := by
      rcases Nat.eq_zero_or_pos u with h | h
      · exfalso
        have := may_ofN hmx hlx
        rw [← hu, h] at this
        rw [this] at hx0
        exact hx0 (by simp [ofN, digs_zero])
      · exact h
    have hlen := text_small hu8
    have HPR := Lib.hid (fun A1 c1 w1 h1 h2 h3 => print_call A1 c1 x w1 h1 hmx hlx h2 h3)
    rw [← hu] at HPR
    obtain ⟨p1, p2⟩ := parse_more hu0 hu8 hk10
    obtain ⟨n, hn⟩ : ∃ n, n = u * 10 + k := ⟨_, rfl⟩
    have htn : ba (text u) ++ ba [UInt8.ofNat (48 + k)] = ba (text n) := by rw [ba_append, hn, text_snoc hu0 hk10]
    have hlen2 : (text n).length ≤ 156 := by rw [hn, text_snoc hu0 hk10, List.length_append]; simp; omega
    rw [← hn] at p1 p2
    have hpa := fun w => parse_ok (ba (text n)) w (by rw [ba_size]; omega) (by rw [ba_list]; exact ok_text n)
    rw [ba_list, p1] at hpa
    obtain ⟨G, hG⟩ : ∃ G : Int, G = (if n < B8 then 0 else 21) := ⟨_, rfl⟩
    rw [← hG] at hpa
    have HG := Lib.hid hG
    clear hG
    have hn9 : (ofN n).length ≤ 9 := by
      refine (ofN_len 9 _).2 ?_
      rw [hn, Nat.pow_succ]
      have e8 : B8 = 18446744073709551616 ^ 8 := rfl
      rw [← e8]
      omega
    have hmul : ∀ A1 c1 wx, Rw wx A1 x → ∀ A2 c2, Rw wx A2 [10] → Calls Tryd.prog 16 #[.slice A1 x.length c1, .slice A2 1 c2] wx fun e w' => ∃ v, e = .returned v ∧ Nw w' wx.heap.size v (ofN (u * 10)) ∧ Below wx.heap.size wx w' := by
      intro A1 c1 wx h1 A2 c2 h2
      have := mulR_call A1 A2 c1 c2 x [10] wx h1 h2 hlx (fun y hy => by have e : y = 10 := (by simpa using hy); omega) (by omega) (by simp)
      rw [← hu, show val [10] = 10 by simp [val]] at this
      exact this
    have hl10 : (ofN (u * 10)).length ≤ 900 := by
      refine Nat.le_trans ((ofN_len 9 _).2 ?_) (by omega)
      rw [Nat.pow_succ]
      have e8 : B8 = 18446744073709551616 ^ 8 := rfl
      rw [← e8]
      omega
    have hadd : ∀ A1 c1 wx, Rw wx A1 (ofN (u * 10)) → ∀ A2 c2, Rw wx A2 [k] → Calls Tryd.prog 15 #[.slice A1 (ofN (u * 10)).length c1, .slice A2 1 c2] wx fun e w' => ∃ v, e = .returned v ∧ Nw w' wx.heap.size v (ofN n) ∧ Below wx.heap.size wx w' := by
      intro A1 c1 wx h1 A2 c2 h2
      have := addR_call A1 A2 c1 c2 (ofN (u * 10)) [k] wx h1 h2 (ofN_lim _) (fun y hy => by have e : y = k := (by simpa using hy); omega) hl10 (by simp)
      rw [val_ofN, show val [k] = k by simp [val], ← hn] at this
      exact this
    have hfit : n < B8 ∨ ¬ n < B8 := Decidable.em _
    have hl8 := ofN_len 8 n
    have HMUL := Lib.hid hmul
    have HADD := Lib.hid hadd
    have HPA := Lib.hid hpa
    have HFIT := Lib.hid (show (n < B8 ∧ (ofN n).length ≤ 8) ∨ (¬ n < B8 ∧ ¬ (ofN n).length ≤ 8) from hfit.elim (fun h => .inl ⟨h, hl8.2 h⟩) (fun h => .inr ⟨h, fun g => h (hl8.1 g)⟩))
    have HP2 := Lib.hid p2
    obtain ⟨k1, hk1⟩ : ∃ k1, k1 = k + 1 := ⟨_, rfl⟩
    have hcut := run_cut k k1 hk10 hk1
    have hk1i : (k : Int) + 1 = (k1 : Int) := by omega
    have hk1w : IntKind.u64.wrap (k1 : Int) = (k1 : Int) := IntWalk.u64_in _ (by omega)
    obtain ⟨s, hs⟩ : ∃ s, s = ba (text u) := ⟨_, rfl⟩
    obtain ⟨oc, hoc⟩ : ∃ s, s = ba [UInt8.ofNat (48 + k)] := ⟨_, rfl⟩
    obtain ⟨tn, htn2⟩ : ∃ s, s = ba (text n) := ⟨_, rfl⟩
    have hsz : s.size ≤ 155 := by rw [hs, ba_size]; exact hlen
    have hoz : oc.size = 1 := by rw [hoc, ba_size]; rfl
    simp only [← hs, ← hoc, ← htn2] at HPR htn HPA hcut
    obtain ⟨mul10, hmul10⟩ : ∃ l, l = ofN (u * 10) := ⟨_, rfl⟩
    obtain ⟨wl, hwl⟩ : ∃ l, l = ofN n := ⟨_, rfl⟩
    simp only [← hmul10, ← hwl] at HMUL HADD HFIT HP2
    rw [← hwl] at hn9
    have hk1k : k ≤ k1 ∧ k1 ≤ 10 := by omega
    have hxp : ¬ (x.length : Int) = 0 := by omega
    clear hmul hadd hpa p1 p2 hn htn2 hs hoc hmul10 hwl hu hu0 hu8 hlx hmx hfit hl8 hlen hlen2 hl10 hk1
    go_enter Tryd.func5, Tryd.ntmps5
    go_wp2_with fail
    refine (HA.out).mono ?_
    rintro e w1 ⟨vx, rfl, hvx, hb1⟩
    obtain ⟨A1, c1, rfl, hc1, hr1⟩ := hvx.open
    have HR1 := Lib.hid hr1
    have HB1 := Lib.hid hb1
    clear hvx hr1 hb1
    go_wp2_with fail
    refine (shown_call w1 (pow_below HPOW.out HB1.out)).mono ?_
    rintro e w2 ⟨rfl, hb2⟩
    have HR2 := Lib.hid (HR1.out.below hb2)
    have HB2 := Lib.hid (HB1.out.trans (hb2.mono HB1.out.size))
    clear hb2 HR1
    go_wp2_with fail
    have HPRD := Lib.hid (HPR.out A1 c1 w2.drew (HR2.out.below (below_drew (Below.refl _ _))) hc1 (pow_below HPOW.out (below_drew HB2.out)))
    go_region_with (first | (go_at_call 9; refine (HPRD.out).mono ?_; rintro e3 w3 ⟨rfl, hb3⟩) | (go_at_call 14; refine (HPA.out _).mono ?_; rintro e4 w4 ⟨v4, rfl, hv4, hb4⟩))
    rcases HFIT.out with ⟨hf, h8⟩ | ⟨hf, h8⟩
    · rw [HP2.out hf] at hv4
      obtain rfl : G = 0 := by rw [HG.out, if_pos hf]
      obtain ⟨A4, c4, rfl, hc4, hrv4⟩ := hv4.open
      have HRV := Lib.hid hrv4
      clear hv4 hrv4 hf
      have hr4 := ((HR2.out.below (below_drew (Below.refl _ _))).below hb3).below hb4
      have HR4 := Lib.hid hr4
      have hB3 := (below_drew HB2.out).trans (hb3.mono HB2.out.size)
      have HB4 := Lib.hid (hB3.trans (hb4.mono hB3.size))
      clear hr4 hB3 hb3 hb4
      go_wp2_with fail
      refine (HMUL.out A1 c1 _ (HR4.out.below (below_alloc (Below.refl _ _) _)) _ _ (Rw.one w4 10)).mono ?_
      rintro e w5 ⟨v, rfl, hv5, hb5⟩
      obtain ⟨A5, c5, rfl, hc5, hr5⟩ := hv5.open
      have HR5 := Lib.hid hr5
      have HB45 := Lib.hid ((below_alloc (Below.refl w4.heap.size w4) _).trans (hb5.mono (by simp)))
      clear hv5 hr5 hb5
      go_wp2_with fail
      refine (HADD.out A5 c5 _ (HR5.out.below (below_alloc (Below.refl _ _) _)) _ _ (Rw.one w5 k)).mono ?_
      rintro e w6 ⟨v, rfl, hv6, hb6⟩
      obtain ⟨A6, c6, rfl, hc6, hr6⟩ := hv6.open
      have HB46 := Lib.hid (HB45.out.trans (((below_alloc (Below.refl w5.heap.size w5) _).trans (hb6.mono (by simp))).mono HB45.out.size))
      have HR6 := Lib.hid hr6
      clear hv6 hr6 hb6
      have h8' : ¬ (8 : Int) < (wl.length : Int) := by omega
      have HSAME := Lib.hid (same_call A4 A6 c4 c6 wl wl w6 (HRV.out.below HB46.out) HR6.out (by omega) (by omega))
      rw [decide_eq_true rfl] at HSAME
      go_wp2_with fail
      refine (HSAME.out).mono ?_
      rintro e w7 ⟨rfl, hb7⟩
      have HB7 := Lib.hid ((HB4.out.trans (HB46.out.mono HB4.out.size)).trans (hb7.mono (HB4.out.trans (HB46.out.mono HB4.out.size)).size))
      clear hb7
      go_wp2_with fail
      go_ret
      exact ⟨rfl, HB7.out⟩
    · obtain rfl : G = 21 := by rw [HG.out, if_neg hf]
      obtain ⟨A4, c4, rfl, hc4, hrv4⟩ := hv4.open
      clear hv4 hrv4 hf
      have hr4 := ((HR2.out.below (below_drew (Below.refl _ _))).below hb3).below hb4
      have HR4 := Lib.hid hr4
      have hB3 := (below_drew HB2.out).trans (hb3.mono HB2.out.size)
      have HB4 := Lib.hid (hB3.trans (hb4.mono hB3.size))
      clear hr4 hB3 hb3 hb4
      go_wp2_with fail
      refine (HMUL.out A1 c1 _ (HR4.out.below (below_alloc (Below.refl _ _) _)) _ _ (Rw.one w4 10)).mono ?_
      rintro e w5 ⟨v, rfl, hv5, hb5⟩
      obtain ⟨A5, c5, rfl, hc5, hr5⟩ := hv5.open
      have HR5 := Lib.hid hr5
      have HB45 := Lib.hid ((below_alloc (Below.refl w4.heap.size w4) _).trans (hb5.mono (by simp)))
      clear hv5 hr5 hb5
      go_wp2_with fail
      refine (HADD.out A5 c5 _ (HR5.out.below (below_alloc (Below.refl _ _) _)) _ _ (Rw.one w5 k)).mono ?_
      rintro e w6 ⟨v, rfl, hv6, hb6⟩
      obtain ⟨A6, c6, rfl, hc6, hr6⟩ := hv6.open
      have HB46 := Lib.hid (HB45.out.trans (((below_alloc (Below.refl w5.heap.size w5) _).trans (hb6.mono (by simp))).mono HB45.out.size))
      have HR6 := Lib.hid hr6
      clear hv6 hr6 hb6
      have h8' : (8 : Int) < (wl.length : Int) := by omega
      go_wp2_with fail
      go_ret
      exact ⟨rfl, HB4.out.trans (HB46.out.mono HB4.out.size)⟩
end Go.Proofs.YtgdlkpfkaehebaaDoor.Dm
