/- The document's From and Parse (seat of DigitParses), and the law's walk. -/
import Derived.Test.YtgdlkpfkaehebaaGreatDoorRo
import Derived.Stop.RegionWithIn
set_option linter.unusedVariables false
set_option linter.unusedSimpArgs false
namespace Go.Proofs.YtgdlkpfkaehebaaGreatDoor.Rz
open Go Go.RowKit Go.Proofs.YtgdlkpfkaehebaaGreatDoorW.PrintWords Go.Proofs.YtgdlkpfkaehebaaGreatDoorW.PrintLast Go.Proofs.YtgdlkpfkaehebaaGreatDoorW.PrintMore
open Nt Lm Bs Pr Ra Do Fr Pz Dp Dq Rm Rn Ro

theorem one2 (W : World) (o : Obj) (x : Nat) : Rw ((W.alloc o).alloc (.cells #[.int .u64 (x : Int)] 31)) (some ⟨W.heap.size + 1, 0, none⟩) [x] := by
  have := Rw.one (W.alloc o) x
  rw [World.size_alloc] at this
  exact this
theorem below_via {w wx w3 : World} (h : Below w.heap.size w wx) (h2 : Below wx.heap.size wx w3) : Below w.heap.size w w3 := h.trans (h2.mono h.size)

set_option maxHeartbeats 8000000 in
set_option maxRecDepth 100000 in
theorem from4_call (A : Option Addr) (c : Nat) (l : List Nat) (w : World) (hr : Rw w A l) (hl : l.length ≤ 300) (hd : ∀ d ∈ l, d < 10) :
    Calls Tryz.prog 12 #[.slice A l.length c, .int .u64 10] w fun e w' => ∃ v, e = .returned (.tuple #[v, .int .i64 (fromE 10 l)]) ∧ Nw w' w.heap.size v (fromL 10 l) ∧ Below w.heap.size w w' := by
  have HR := Lib.hid hr
  have HD := Lib.hid (fun i => atL_lt (by decide : 0 < 10) hd i)
  obtain ⟨fe, hfe⟩ : ∃ e, e = fromE 10 l := ⟨_, rfl⟩
  obtain ⟨fl, hfl⟩ : ∃ e, e = fromL 10 l := ⟨_, rfl⟩
  rw [← hfe, ← hfl]
  have HE := Lib.hid (show ∀ R, unb 10 l = R → (R < B8 → fe = 0 ∧ fl = ofN R) ∧ (¬ R < B8 → fe = 21 ∧ fl = []) from fun R e => by
    subst e
    rw [hfe, hfl]
    unfold fromE fromL
    exact ⟨fun h => ⟨if_pos h, if_pos h⟩, fun h => ⟨if_neg h, if_neg h⟩⟩)
  have hw0 : IntKind.i64.wrap ((l.length : Int) - 1) = (l.length : Int) - 1 := IntWalk.i64_in _ (by omega)
  clear hr hd hfe hfl
  go_enter Tryz.func12, Tryz.ntmps12
  go_wp2
  go_loop [6] (fun v => ∃ i : Nat, i ≤ l.length ∧ v = .int .i64 (i : Int)) (fun v => l.length - (intOf v).toNat)
  case atStart => exact ⟨0, by omega, rfl⟩
  case round =>
    obtain ⟨i, hi, rfl⟩ := hrel
    by_cases hil : i < l.length
    · obtain ⟨ad, e, hx⟩ := HR.out.at i hil
      cases e
      have hil' : (i : Int) < (l.length : Int) := by omega
      have hx10 := HD.out i
      obtain ⟨x, hxx⟩ : ∃ x, x = atL l i := ⟨_, rfl⟩
      rw [← hxx] at hx hx10
      have hge : ¬ (10 : Int) ≤ (x : Int) := by omega
      clear hw0 hxx
      go_wp2_with fail
      go_round
      case rel => exact ⟨i + 1, by omega, by go_num⟩
      case measure => simp [intOf]; omega
    · have hil' : ¬ (i : Int) < (l.length : Int) := by omega
      obtain rfl : i = l.length := by omega
      go_wp2_with fail
      go_loopw [7, 8] (fun u v wr => ∃ (j m : Nat) (iv : Int), v = .int .i64 iv ∧ iv + 1 = (j : Int) ∧ j + m = l.length ∧ Fr.part 10 l m < B8 ∧ Hid (Nw wr w.heap.size u (ofN (Fr.part 10 l m))) ∧ Hid (Below w.heap.size w wr)) (fun _ v _ => ((intOf v) + 1).toNat)
      case atStart => exact ⟨l.length, 0, (l.length : Int) - 1, by first | rfl | (rw [hw0]), by omega, by omega, by rw [Fr.part_zero]; decide, Lib.hid (by rw [Fr.part_zero]; simp only [ofN, digs_zero]; exact Nw.lit0 _ _ (Nat.le_refl _)), Lib.hid (below_alloc (Below.refl _ _) _)⟩
      case round =>
        clear hw0
        obtain ⟨j, m, iv, rfl, hiv, hjm, hfit, hv, hB⟩ := hrel
        obtain ⟨A5, c5, e5, hc5, hr5⟩ := hv.out.open
        subst e5
        rcases j with _ | i
        · obtain rfl : iv = -1 := by omega
          obtain ⟨q1, q2⟩ := (HE.out _ (Fr.part_all 10 l).symm).1 (by rw [show l.length = m by omega]; exact hfit)
          have hv2 := hv.out
          rw [show m = l.length by omega, ← q2] at hv2
          have e6 : (ofN (Fr.part 10 l m)).length = fl.length := by rw [q2, show m = l.length by omega]
          rw [e6] at *
          have HV := Lib.hid hv2
          subst q1
          clear hv2 hr5 hfit hjm q2
          go_wp2_with fail
          go_ret2
          exact ⟨_, rfl, by first | exact HV.out | (rw [← e6]; exact hv.out), hB.out⟩
        · obtain rfl : iv = (i : Int) := by omega
          obtain ⟨ad, e, hx⟩ := HR.out.at i (by omega)
          cases e
          replace hx := (hB.out.cell (World.block_lt_of_cell? w _ hx)).trans hx
          have hps := Fr.part_succ 10 l m (by omega)
          rw [show l.length - 1 - m = i by omega] at hps
          have hd10 := HD.out i
          obtain ⟨d, hdd⟩ : ∃ d, d = atL l i := ⟨_, rfl⟩
          rw [← hdd] at hx hps hd10
          have HDD := Lib.hid hdd
          obtain ⟨P, hP⟩ : ∃ P, P = Fr.part 10 l m := ⟨_, rfl⟩
          rw [← hP] at hfit hps hr5 hc5 hv ⊢
          have hmul : ∀ A2 c2 wx, Rw wx A5 (ofN P) → Rw wx A2 [10] → Calls Tryz.prog 34 #[.slice A5 (ofN P).length c5, .slice A2 1 c2] wx fun e w' => ∃ v, e = .returned v ∧ Nw w' wx.heap.size v (ofN (P * 10)) ∧ Below wx.heap.size wx w' := by
            intro A2 c2 wx h1 h2
            have := mulR_call A5 A2 c5 c2 (ofN P) [10] wx h1 h2 (ofN_lim P) (fun y hy => by have e : y = 10 := (by simpa using hy); omega) (Nat.le_trans ((ofN_len 8 P).2 hfit) (by omega)) (by simp)
            rw [val_ofN, show val [10] = 10 by simp [val]] at this
            exact this
          have hl10 : (ofN (P * 10)).length ≤ 900 := by
            refine Nat.le_trans ((ofN_len 9 _).2 ?_) (by omega)
            rw [Nat.pow_succ]
            have e8 : B8 = 18446744073709551616 ^ 8 := rfl
            rw [← e8]
            omega
          obtain ⟨R, hR⟩ : ∃ R, R = P * 10 + d := ⟨_, rfl⟩
          rw [← hR] at hps
          have hadd : ∀ A1 c1 A2 c2 wx, Rw wx A1 (ofN (P * 10)) → Rw wx A2 [d] → Calls Tryz.prog 33 #[.slice A1 (ofN (P * 10)).length c1, .slice A2 1 c2] wx fun e w' => ∃ v, e = .returned v ∧ Nw w' wx.heap.size v (ofN R) ∧ Below wx.heap.size wx w' := by
            intro A1 c1 A2 c2 wx h1 h2
            have := addR_call A1 A2 c1 c2 (ofN (P * 10)) [d] wx h1 h2 (ofN_lim _) (fun y hy => by have e : y = d := (by simpa using hy); omega) hl10 (by simp)
            rw [val_ofN, show val [d] = d by simp [val], ← hR] at this
            exact this
          have hfits : (R < B8 ∧ (ofN R).length ≤ 8) ∨ (¬ R < B8 ∧ ¬ (ofN R).length ≤ 8) := (Decidable.em (R < B8)).elim (fun h => .inl ⟨h, (ofN_len 8 R).2 h⟩) (fun h => .inr ⟨h, fun g => h ((ofN_len 8 R).1 g)⟩)
          have hbig : ¬ R < B8 → fe = 21 ∧ fl = [] := fun h => (HE.out _ rfl).2 (fun g => h (Nat.lt_of_le_of_lt (by rw [← hps]; exact Fr.part_le 10 (by omega) l (m + 1)) g))
          have hl9 : (ofN R).length ≤ 10 := by
            refine Nat.le_trans ((ofN_len 9 _).2 ?_) (by omega)
            rw [Nat.pow_succ]
            have e8 : B8 = 18446744073709551616 ^ 8 := rfl
            rw [← e8]
            omega
          have HMUL := Lib.hid hmul
          have HADD := Lib.hid hadd
          have HFITS := Lib.hid hfits
          have HBIG := Lib.hid hbig
          have HPS := Lib.hid hps
          have HX5 := Lib.hid hr5
          have HRL := Lib.hid (HR.out.below hB.out)
          obtain ⟨xl, hxl⟩ : ∃ x, x = ofN P := ⟨_, rfl⟩
          obtain ⟨ml, hml⟩ : ∃ x, x = ofN (P * 10) := ⟨_, rfl⟩
          obtain ⟨rl, hrl⟩ : ∃ x, x = ofN R := ⟨_, rfl⟩
          have HRL2 := Lib.hid hrl
          rw [← hxl] at HMUL HX5 hv hc5 ⊢
          rw [← hml] at HMUL HADD hl10
          rw [← hrl] at HADD HFITS hl9
          have hii : (0 : Int) ≤ (i : Int) := by omega
          clear hmul hadd hfits hbig hps hr5 hxl hml hrl hR hP hdd hfit
          go_wp2_with fail
          have hlt : (ad.add i).block < wr.heap.size := World.block_lt_of_cell? wr _ hx
          have hxd : wr.drew.cell? (ad.add i) = some (.int .u64 (d : Int)) := hx
          have hxa : ∀ o : Obj, (wr.drew.alloc o).cell? (ad.add i) = some (.int .u64 (d : Int)) := fun o => ((below_alloc (below_drew (Below.refl _ _)) o).cell (p := ad.add i) hlt).trans hx
          have hxb : ∀ o p : Obj, ((wr.drew.alloc o).alloc p).cell? (ad.add i) = some (.int .u64 (d : Int)) := fun o p => ((below_alloc (below_alloc (below_drew (Below.refl _ _)) o) p).cell (p := ad.add i) hlt).trans hx
          have hxc : ∀ o : Obj, (wr.alloc o).cell? (ad.add i) = some (.int .u64 (d : Int)) := fun o => ((below_alloc (Below.refl _ _) o).cell (p := ad.add i) hlt).trans hx
          have hxe : ∀ o p : Obj, ((wr.alloc o).alloc p).cell? (ad.add i) = some (.int .u64 (d : Int)) := fun o p => ((below_alloc (below_alloc (Below.refl _ _) o) p).cell (p := ad.add i) hlt).trans hx
          go_region_with (first
            | (go_at_call 34; refine (HMUL.out _ _ _ (HX5.out.below (by repeat (first | exact Below.refl _ _ | apply below_alloc | apply below_drew))) (by first | exact (Rw.one wr 10).below (by repeat (first | exact Below.refl _ _ | apply below_alloc | apply below_drew)) | exact (one2 wr _ 10).below (by repeat (first | exact Below.refl _ _ | apply below_alloc | apply below_drew)))).mono ?_; rintro e3 w3 ⟨v3, rfl, hv3, hb3⟩; obtain ⟨A6, c6, e6, hc6, hr6⟩ := hv3.open; subst e6; have hB3 := below_via (w := wr) (by repeat (first | exact Below.refl _ _ | apply below_alloc | apply below_drew)) hb3; obtain ⟨ad3, e33, hx3⟩ := (HRL.out.below hB3).at i (by omega); cases e33; rw [← HDD.out] at hx3)
            | (go_at_call 33; refine (HADD.out _ _ _ _ _ (hr6.below (by repeat (first | exact Below.refl _ _ | apply below_alloc | apply below_drew))) (by first | exact (Rw.one w3 d).below (by repeat (first | exact Below.refl _ _ | apply below_alloc | apply below_drew)) | exact ((Rw.one wr d).below (by repeat (first | exact Below.refl _ _ | apply below_alloc | apply below_drew))).below hb3 | exact ((one2 wr _ d).below (by repeat (first | exact Below.refl _ _ | apply below_alloc | apply below_drew))).below hb3)).mono ?_; rintro e4 w4 ⟨v4, rfl, hv4, hb4⟩; obtain ⟨A7, c7, e7, hc7, hr7⟩ := hv4.open; subst e7; have hB4 := below_via hB3 (below_via (w := w3) (by repeat (first | exact Below.refl _ _ | apply below_alloc | apply below_drew)) hb4); have hv5 := hv4.lower (lo' := w.heap.size) (by have := hB.out.size; have := hB3.size; first | omega | (simp; omega))))
          all_goals
            have HV5 := Lib.hid hv5
            have HB4 := Lib.hid (hB.out.trans (hB4.mono hB.out.size))
            clear hv5 hB4 hB3 hxd hxa hxb hxc hxe hlt hx hx3
            rcases HFITS.out with ⟨hf, h8⟩ | ⟨hf, h8⟩
            · have h8' : ¬ (8 : Int) < (rl.length : Int) := by omega
              go_wp2_with fail
              refine ⟨⟨i, m + 1, (i : Int) - 1, by first | rfl | go_num, by omega, by omega, by rw [HPS.out]; exact hf, Lib.hid (by rw [HPS.out, ← HRL2.out]; exact HV5.out), HB4⟩, ?_⟩
              first | (simp [intOf]; done) | (simp [intOf]; omega)
            · have h8' : (8 : Int) < (rl.length : Int) := by omega
              obtain ⟨rfl, rfl⟩ := HBIG.out hf
              go_wp2_with fail
              go_ret2
              exact ⟨_, rfl, Nw.nil _ _, HB4.out⟩
end Go.Proofs.YtgdlkpfkaehebaaGreatDoor.Rz
