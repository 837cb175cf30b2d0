/- The calls of the store's held and put are proved: they do what heldD and putS do. -/
import Derived.Test.YtoafebndlldclaaDoorStoreA
import Derived.Test.YtoafebndlldclaaDoorLogOn
namespace Go.Proofs.YtoafebndlldclaaDoor.St
open Go Go.RowKit Go.Shelf Dk Fr Wl Go.Proofs.YtoafebndlldclaaDoor.PAll Go.Proofs.YtoafebndlldclaaDoorW.PrintWords Go.Proofs.YtoafebndlldclaaDoorW.PrintLast
variable {w : World} {b g bm : Nat} {D : DS}

theorem putsGo_nil (D : DS) (i : Nat) : putsGo D i [] = ((sync D).1, decide ((sync D).2 ≠ 0)) := by
  unfold putsGo restGo
  simp [fullsGo]
theorem putsGo_step (D : DS) (i : Nat) (s : Bs) (hs : s ≠ []) : putsGo D i s = if (write D (i : Nat) (s.take 64)).2 ≠ 0 then ((write D (i : Nat) (s.take 64)).1, true) else putsGo (write D (i : Nat) (s.take 64)).1 (i + 1) (s.drop 64) := by
  by_cases hl : 64 ≤ s.length
  · have e : s.length / 64 = (s.drop 64).length / 64 + 1 := by rw [List.length_drop]; omega
    have e2 : i + ((s.drop 64).length / 64 + 1) = i + 1 + (s.drop 64).length / 64 := by omega
    have e3 : 64 * ((s.drop 64).length / 64 + 1) = 64 + 64 * ((s.drop 64).length / 64) := by omega
    unfold putsGo
    rw [e, fullsGo, e2, e3, ← List.drop_drop]
    by_cases hw : (write D (i : Nat) (s.take 64)).2 = 0
    · simp only [hw, ne_eq, not_true_eq_false, if_false]
    · rw [if_pos hw, if_pos hw, if_pos rfl]
  · have e : s.length / 64 = 0 := by omega
    have e1 : s.take 64 = s := List.take_of_length_le (by omega)
    have e2 : s.drop 64 = [] := List.drop_eq_nil_of_le (by omega)
    rw [e1, e2, putsGo_nil]
    unfold putsGo restGo
    rw [e]
    simp only [fullsGo, Nat.mul_zero, List.drop_zero, Nat.add_zero]
    rw [if_neg (by simp), if_neg hs]

set_option maxRecDepth 100000 in
set_option maxHeartbeats 2000000 in
theorem held_call (h : IsDisk w b g bm D) : Calls Tryd.prog 55 #[.pointer (some ⟨b, 0, none⟩)] w fun e w' => e = .returned (.int .i64 (heldD D)) ∧ Below w.heap.size w w' := by
  have hn4 := h.ok.hi
  have HL := Lib.hid (len_any h)
  have HSC := Lib.hid (fun W => slot_call D.olds.length (by omega) W)
  have HUP := Lib.hid (fun W (hd : IsDisk W b g bm D) => up_any hd)
  have HH := Lib.hid h
  have hdef : heldD D = if slotN D.olds.length = 0 then 1 else if D.off = true then 180 else 0 := rfl
  obtain ⟨k, hk⟩ : ∃ k, k = slotN D.olds.length := ⟨_, rfl⟩
  obtain ⟨n, hn⟩ : ∃ n, n = D.olds.length := ⟨_, rfl⟩
  obtain ⟨of, hof⟩ : ∃ of, of = D.off := ⟨_, rfl⟩
  rw [← hk, ← hof] at hdef
  rw [← hk, ← hn] at HSC
  rw [← hn] at HL
  rw [← hof] at HUP
  rw [hdef]
  clear hdef hk hn hof h hn4
  by_cases k0 : k = 0
  · subst k0
    go_enter Tryd.func55, Tryd.ntmps55
    go_wp2_with fail
    refine HL.out.mono ?_
    rintro e w1 ⟨rfl, rfl⟩
    go_wp2_with fail
    refine (HSC.out _).mono ?_
    rintro e w2 ⟨rfl, hb⟩
    go_wp2
    go_ret
    exact ⟨rfl, hb⟩
  · cases of with
    | true =>
      go_enter Tryd.func55, Tryd.ntmps55
      go_wp2_with fail
      refine HL.out.mono ?_
      rintro e w1 ⟨rfl, rfl⟩
      go_wp2_with fail
      refine (HSC.out _).mono ?_
      rintro e w2 ⟨rfl, hb⟩
      have HU2 := Lib.hid (HUP.out _ (HH.out.below hb))
      go_wp2_with fail
      refine HU2.out.mono ?_
      rintro e w3 ⟨rfl, rfl⟩
      go_wp2
      go_ret
      exact ⟨by simp, hb⟩
    | false =>
      go_enter Tryd.func55, Tryd.ntmps55
      go_wp2_with fail
      refine HL.out.mono ?_
      rintro e w1 ⟨rfl, rfl⟩
      go_wp2_with fail
      refine (HSC.out _).mono ?_
      rintro e w2 ⟨rfl, hb⟩
      have HU2 := Lib.hid (HUP.out _ (HH.out.below hb))
      go_wp2_with fail
      refine HU2.out.mono ?_
      rintro e w3 ⟨rfl, rfl⟩
      go_wp2
      go_ret
      exact ⟨by simp, hb⟩

theorem LogAt.mono {W : World} {base base' : Nat} {p : Option Addr} {o : Option LS} (h : LogAt W base b p o) (hb : base' ≤ base) : LogAt W base' b p o := by
  cases o with
  | none => exact h
  | some L => obtain ⟨lb, h1, h2, h3⟩ := h; exact ⟨lb, h1, Nat.le_trans hb h2, h3⟩
def PutPost (w : World) (b g bm : Nat) (R : DS × Option LS × Int) (e : Ending) (w' : World) : Prop :=
  ∃ p : Option Addr, e = .returned (.tuple #[.pointer p, .int .i64 R.2.2]) ∧ IsDisk w' b g bm R.1 ∧ Kp (Foot b g bm) w w' ∧ LogAt w' w.heap.size b p R.2.1
structure PAt (w : World) (b g bm : Nat) (n i j : Nat) (R : DS × Bool) (s : Bs) (Dj : DS) (wr : World) : Prop where
  disk : IsDisk wr b g bm Dj
  kp : Kp (Foot b g bm) w wr
  len : Dj.olds.length = n
  go : putsGo Dj (i + j) (s.drop (64 * j)) = R

set_option maxRecDepth 100000 in
set_option maxHeartbeats 8000000 in
theorem put_aux (h : IsDisk w b g bm D) (slot ep : Nat) (text : Bs) (hsl : slot ≤ 1) (hep : ep < 18446744073709551616) (ht : text.length ≤ 4611686018427387904) (P : DS × Option LS × Int) (hP : putS D slot ep text = P) :
    Calls Tryd.prog 57 #[.pointer (some ⟨b, 0, none⟩), .int .i64 slot, .int .u64 ep, .string ⟨text.toArray⟩] w (PutPost w b g bm P) := by
  have hn4 := h.ok.hi
  have hput := fun w => put_call ep ep ⟨text.toArray⟩ w hep hep
  rw [show (⟨text.toArray⟩ : ByteArray).data.toList = text from by simp] at hput
  obtain ⟨n, hn⟩ : ∃ n, n = D.olds.length := ⟨_, rfl⟩
  obtain ⟨k, hk⟩ : ∃ k, k = slotN n := ⟨_, rfl⟩
  obtain ⟨a0, ha0⟩ : ∃ a0, a0 = slot * k := ⟨_, rfl⟩
  have hk2 : 2 * k ≤ n ∧ k ≤ 1024 := by rw [hk]; unfold slotN; split <;> omega
  obtain ⟨k2n, k1024⟩ := hk2
  have ha1024 : a0 ≤ 1024 := by
    rcases Nat.le_one_iff_eq_zero_or_eq_one.1 hsl with e | e <;> subst e <;> omega
  have hmul : (slot : Int) * (k : Int) = (a0 : Int) := by rw [ha0]; simp
  have HL := Lib.hid (fun W (Dx : DS) (hd : IsDisk W b g bm Dx) => len_any hd)
  have HSC := Lib.hid (fun W => slot_call n (by omega) W)
  have HP2 := Lib.hid hP
  unfold putS at hP
  rw [← hn, ← hk, ← ha0] at hP
  rw [← hk] at HSC
  have HH := Lib.hid h
  have HN := Lib.hid hn
  have HPUT := Lib.hid hput
  clear hn hk ha0 hput h
  by_cases hbig : 8192 < text.length
  · rw [if_pos hbig] at hP
    subst hP
    have hpr : putR ep ep text = ([], 71) := by unfold putR; rw [if_pos hbig]
    have hp2 := HPUT.out
    rw [hpr] at hp2
    have HPT := Lib.hid hp2
    have hlen := HL.out w D HH.out
    rw [← HN.out] at hlen
    have hl2 : ∀ W, Below w.heap.size w W → _ := fun W (hb : Below w.heap.size w W) => HL.out W D (HH.out.below hb)
    rw [← HN.out] at hl2
    have HLL := Lib.hid hl2
    clear hpr hp2 hlen hl2 hbig
    go_enter Tryd.func57, Tryd.ntmps57
    go_wp2_with fail
    refine (HPT.out _).mono ?_
    rintro e w1 ⟨rfl, hb1⟩
    go_wp2_with fail
    refine (HLL.out _ hb1).mono ?_
    rintro e w2 ⟨rfl, rfl⟩
    go_wp2_with fail
    refine (HSC.out _).mono ?_
    rintro e w3 ⟨rfl, hb3⟩
    go_wp2
    go_ret2
    have hb := hb1.trans (hb3.mono hb1.size)
    exact ⟨none, rfl, HH.out.below hb, .of_below hb, rfl⟩
  · rw [if_neg hbig] at hP
    obtain ⟨S, hS⟩ : ∃ S, S = putL ep ep text := ⟨_, rfl⟩
    have hSl : S.length = 24 + text.length := by rw [hS, putL_length]
    have hpr : putR ep ep text = (S, 0) := by unfold putR; rw [if_neg hbig, hS]
    rw [← hS, ← hSl] at hP
    have hp2 := HPUT.out
    rw [hpr] at hp2
    obtain ⟨ss, hss, hssz⟩ : ∃ ss : ByteArray, ss = ⟨S.toArray⟩ ∧ ss.size = S.length := ⟨_, rfl, by simp [ByteArray.size]⟩
    simp only [← hss] at hp2
    have HPT := Lib.hid hp2
    have hl2 : ∀ W, Below w.heap.size w W → _ := fun W (hb : Below w.heap.size w W) => HL.out W D (HH.out.below hb)
    rw [← HN.out] at hl2
    have HLL := Lib.hid hl2
    have hs8 : S.length ≤ 8216 := by omega
    have hssb : ss.size ≤ 8216 := by omega
    have hs24 : 24 ≤ S.length := by omega
    have HSS := Lib.hid hss
    have HSZ := Lib.hid hssz
    clear hpr hp2 hl2 hbig hS hSl hss ht
    by_cases hfit : 64 * k < S.length
    · rw [if_pos hfit] at hP
      subst hP
      have hf2 : (k : Int) * 64 < (ss.size : Int) := by omega
      clear hfit hssz
      go_enter Tryd.func57, Tryd.ntmps57
      go_wp2_with fail
      refine (HPT.out _).mono ?_
      rintro e w1 ⟨rfl, hb1⟩
      go_wp2_with fail
      refine (HLL.out _ hb1).mono ?_
      rintro e w2 ⟨rfl, rfl⟩
      go_wp2_with fail
      refine (HSC.out _).mono ?_
      rintro e w3 ⟨rfl, hb3⟩
      go_wp2
      go_ret2
      have hb := hb1.trans (hb3.mono hb1.size)
      exact ⟨none, rfl, HH.out.below hb, .of_below hb, rfl⟩
    · rw [if_neg hfit] at hP
      have hf2 : ¬ (k : Int) * 64 < (ss.size : Int) := by omega
      obtain ⟨⟨D2, fail⟩, hR⟩ : ∃ R, putsGo D a0 S = R := ⟨_, rfl⟩
      rw [hR] at hP
      have HP3 := Lib.hid hP
      have HR := Lib.hid hR
      clear hfit hssz hP hR
      go_enter Tryd.func57, Tryd.ntmps57
      go_wp2_with fail
      refine (HPT.out _).mono ?_
      rintro e w1 ⟨rfl, hb1⟩
      go_wp2_with fail
      refine (HLL.out _ hb1).mono ?_
      rintro e w2 ⟨rfl, rfl⟩
      go_wp2_with fail
      refine (HSC.out _).mono ?_
      rintro e w3 ⟨rfl, hb3⟩
      have HB3 := Lib.hid (hb1.trans (hb3.mono hb1.size))
      clear hb1 hb3
      go_wp2
      rw [HSS.out]
      go_loopw [10, 13, 14] (fun s i _ wr => ∃ (j : Nat) (Dj : DS), s = .string ⟨(S.drop (64 * j)).toArray⟩ ∧ i = .int .i64 ((a0 + j : Nat) : Int) ∧ 64 * j ≤ S.length + 63 ∧ PAt w b g bm n a0 j (D2, fail) S Dj wr) (fun _ i _ _ => a0 + S.length - (intOf i).toNat)
      case atStart => exact ⟨0, D, by simp, rfl, by omega, HH.out.below HB3.out, .of_below HB3.out, HN.out.symm, by rw [Nat.add_zero, Nat.mul_zero, List.drop_zero]; exact HR.out⟩
      case round =>
        obtain ⟨j, Dj, rfl, rfl, hj, hw⟩ := hrel
        have HW := Lib.hid hw
        obtain ⟨sj, hsj, hsjz⟩ : ∃ sj : ByteArray, sj = ⟨(S.drop (64 * j)).toArray⟩ ∧ sj.size = S.length - 64 * j := ⟨_, rfl, by show (S.drop (64 * j)).toArray.size = _; simp⟩
        have hsm : sj.size ≤ 8216 := by omega
        have HSJ := Lib.hid hsj
        have HSJZ := Lib.hid hsjz
        rw [← hsj]
        clear hw hsj hsjz
        have hemp : sj.toList.isEmpty = decide (sj.size = 0) := by
          rw [ByteArray.toList_eq]
          have : sj.data.toList.length = sj.size := by rw [Array.length_toList]; rfl
          cases hl : sj.data.toList with
          | nil => rw [hl] at this; simp at this; simp [← this]
          | cons y ys => rw [hl] at this; simp at this; simp [← this]
        by_cases hne : sj.size = 0
        · have hnz : sj.toList.isEmpty = true := by rw [hemp]; exact decide_eq_true hne
          have hgo := HW.out.go
          rw [show S.drop (64 * j) = [] from List.drop_eq_nil_of_le (by have := HSJZ.out; omega), putsGo_nil] at hgo
          have hsy := sync_any HW.out.disk
          have hl4 : (sync Dj).1.olds.length = n := (sync_len HW.out.disk.ok).trans HW.out.len
          obtain ⟨⟨D4, es⟩, hS⟩ : ∃ x, sync Dj = x := ⟨_, rfl⟩
          rw [hS] at hsy hgo hl4
          dsimp only at hgo hl4
          have HSY := Lib.hid hsy
          have HGO := Lib.hid hgo
          have HL4 := Lib.hid hl4
          clear hemp hgo hsy hS hl4
          by_cases hes : es = 0
          · subst hes
            go_wp2_with fail
            refine HSY.out.mono ?_
            rintro e w4 ⟨rfl, h4, k4⟩
            have H4 := Lib.hid h4
            have K4 := Lib.hid (HW.out.kp.trans k4)
            obtain ⟨h1, h2⟩ := Prod.mk.inj HGO.out
            have hp := HP3.out
            have h2 : fail = false := by rw [← h2]; rfl
            rw [if_neg (by rw [h2]; simp), ← h1] at hp
            have hln := HL.out w4 D4 h4
            rw [HL4.out] at hln
            have hop := open_any h4 ((2 * k : Nat) : Int) (n : Int) ep
            rw [show ((2 * k : Nat) : Int) = 2 * (k : Int) from by omega] at hop hp
            have HOP := Lib.hid hop
            have HPP := Lib.hid hp
            have HLN := Lib.hid hln
            clear h4 k4 h1 h2 hp hln hop
            go_wp2_with fail
            refine HLN.out.mono ?_
            rintro e w5 ⟨rfl, rfl⟩
            go_wp2_with fail
            refine HOP.out.mono ?_
            rintro e w6 ⟨p, v6, rfl, h6, k6, t6, l6⟩
            go_wp2
            go_ret2
            have hpp := HPP.out
            subst hpp
            exact ⟨p, rfl, h6, K4.out.trans k6, LogAt.mono l6 K4.out.size⟩
          · have hte : (es != 0) = true := by rw [bne_iff_ne]; exact hes
            go_wp2_with fail
            refine HSY.out.mono ?_
            rintro e w4 ⟨rfl, h4, k4⟩
            have H4 := Lib.hid h4
            have K4 := Lib.hid (HW.out.kp.trans k4)
            clear h4 k4
            go_wp2
            go_ret2
            obtain ⟨h1, h2⟩ := Prod.mk.inj HGO.out
            have hp := HP3.out
            have h2 : fail = true := by rw [← h2]; exact decide_eq_true hes
            rw [if_pos h2, ← h1] at hp
            subst hp
            exact ⟨none, rfl, H4.out, K4.out, rfl⟩
        · have hnz : sj.toList.isEmpty = false := by rw [hemp]; exact decide_eq_false hne
          obtain ⟨ai, hai⟩ : ∃ ai : Nat, ai = a0 + j := ⟨_, rfl⟩
          have hai2 : (ai : Int) ≤ 9000000 := by omega
          obtain ⟨m, hm⟩ : ∃ m : Nat, m = min sj.size 64 := ⟨_, rfl⟩
          have hmi : min (sj.size : Int) 64 = (m : Int) := by omega
          have hms : m ≤ sj.size := by omega
          have hwr := write_any HW.out.disk ((ai : Nat) : Int) (sj.extract 0 m) (by rw [ByteArray.size_extract]; omega)
          have hul : (sj.extract 0 m).data.toList = (S.drop (64 * j)).take 64 := by
            rw [Fr.extract_list, HSJ.out, hm]
            simp only [List.drop_zero]
            rw [List.take_eq_take_iff, List.length_drop]
            have := HSJZ.out
            omega
          rw [hul] at hwr
          obtain ⟨⟨D3, er⟩, hD3⟩ : ∃ x, Dk.write Dj ((ai : Nat) : Int) ((S.drop (64 * j)).take 64) = x := ⟨_, rfl⟩
          rw [hD3] at hwr
          have hl3 : D3.olds.length = n := by
            have := write_len Dj ((ai : Nat) : Int) ((S.drop (64 * j)).take 64)
            rw [hD3] at this
            exact this.trans HW.out.len
          have hgo := HW.out.go
          rw [putsGo_step _ _ _ (by intro e; have := congrArg List.length e; rw [List.length_drop, List.length_nil] at this; have := HSJZ.out; omega), ← hai, hD3, List.drop_drop] at hgo
          have HWR := Lib.hid hwr
          have HAI := Lib.hid hai
          have HGO := Lib.hid hgo
          have HL3 := Lib.hid hl3
          have HM := Lib.hid hm
          rw [← hai]
          clear hemp hwr hul hD3 hgo hai hl3 hm
          by_cases her : er = 0
          · subst her
            have hgo := HGO.out
            simp only [ne_eq, not_true_eq_false, if_false] at hgo
            have HGO2 := Lib.hid hgo
            clear hgo
            go_wp2_with fail
            refine HWR.out.mono ?_
            rintro e w4 ⟨rfl, h4, k4⟩
            have H4 := Lib.hid h4
            have K4 := Lib.hid (HW.out.kp.trans k4)
            clear h4 k4
            have hnext : sj.extract m sj.size = ⟨(S.drop (64 * (j + 1))).toArray⟩ := by
              apply Fr.ext_list
              rw [Fr.extract_list]
              have hz := HSJZ.out
              have hm := HM.out
              have hl : sj.data.toList = S.drop (64 * j) := by rw [HSJ.out]
              rw [List.take_of_length_le (by rw [Array.length_toList]; exact Nat.le_refl _), hl, List.drop_drop]
              show S.drop (64 * j + m) = S.drop (64 * (j + 1))
              by_cases h64 : 64 ≤ sj.size
              · congr 1; omega
              · rw [List.drop_eq_nil_of_le (by omega), List.drop_eq_nil_of_le (by omega)]
            have HNX := Lib.hid hnext
            clear hnext
            go_wp2
            go_roundw
            case rel =>
              repeat apply Exists.intro
              refine ⟨?_, rfl⟩
              refine ⟨j + 1, D3, by rw [HNX.out], by rw [HAI.out]; go_num, by have := HSJZ.out; omega, H4.out, K4.out, HL3.out, ?_⟩
              have := HGO2.out
              rw [HAI.out] at this
              exact this
            case measure => have := HAI.out; have := HSJZ.out; simp [intOf]; omega
          · have hte : (er != 0) = true := by rw [bne_iff_ne]; exact her
            have hgo := HGO.out
            simp only [ne_eq, her, not_false_eq_true, if_true] at hgo
            have HGO2 := Lib.hid hgo
            clear hgo
            go_wp2_with fail
            refine HWR.out.mono ?_
            rintro e w4 ⟨rfl, h4, k4⟩
            have H4 := Lib.hid h4
            have K4 := Lib.hid (HW.out.kp.trans k4)
            clear h4 k4
            go_wp2
            go_ret2
            obtain ⟨rfl, rfl⟩ := Prod.mk.inj HGO2.out
            have hp := HP3.out
            rw [if_pos rfl] at hp
            subst hp
            exact ⟨none, rfl, H4.out, K4.out, rfl⟩

theorem put_st (h : IsDisk w b g bm D) (slot ep : Nat) (text : Bs) (hsl : slot ≤ 1) (hep : ep < 18446744073709551616) (ht : text.length ≤ 4611686018427387904) :
    Calls Tryd.prog 57 #[.pointer (some ⟨b, 0, none⟩), .int .i64 slot, .int .u64 ep, .string ⟨text.toArray⟩] w (PutPost w b g bm (putS D slot ep text)) := put_aux h slot ep text hsl hep ht _ rfl
theorem found_call (h : IsDisk w b g bm D) (hup : D.off = false) :
    Calls Tryd.prog 56 #[.pointer (some ⟨b, 0, none⟩)] w fun e w' => e = .returned (.tuple #[.agg #[.int .u64 (foundD D).1, .int .u64 (foundD D).1, .string ⟨(foundD D).2.1.toArray⟩], .int .i64 (foundD D).2.2]) ∧ Below w.heap.size w w' := found_aux h hup _ rfl
end Go.Proofs.YtoafebndlldclaaDoor.St
