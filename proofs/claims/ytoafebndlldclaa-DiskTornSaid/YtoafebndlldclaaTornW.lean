/- The call of the law DiskTorn is proved: it answers true, whatever the texts and the fate. -/
import Derived.Test.YtoafebndlldclaaDiskH
import Derived.OpenShut
namespace Go.Proofs.Ytoafebndlldclaa.Dk
open Go Go.RowKit Go.ChangeMaps Go.MapKept

set_option maxRecDepth 100000 in
set_option maxHeartbeats 1000000 in
theorem torn_far (a c : ByteArray) (f : Int) (W : World) (h : 64 < a.size ∨ 64 < c.size) : Calls Try.prog 3 #[.string a, .string c, .int .u8 f] W fun e w' => e = .returned (.bool true) ∧ Below W.heap.size W w' := by
  by_cases h1 : 64 < a.size
  · have h2 : decide (64 < a.size) = true := decide_eq_true h1
    go_enter Try.func3, Try.ntmps3
    go_wp2_with (go_at_call 8; refine (shown_any _).mono ?_; rintro e' w' ⟨rfl, hb⟩)
    go_ret
    exact ⟨rfl, hb⟩
  · have h2 : decide (64 < a.size) = false := decide_eq_false h1
    have h3 : decide (64 < c.size) = true := decide_eq_true (by omega)
    go_enter Try.func3, Try.ntmps3
    go_wp2_with (go_at_call 8; refine (shown_any _).mono ?_; rintro e' w' ⟨rfl, hb⟩)
    go_ret
    exact ⟨rfl, hb⟩

theorem Torn.text_size {a za : ByteArray} {z : ByteArray} (hz : z = ⟨(zeros (64 - a.size)).toArray⟩) (h : za = a ++ z) (ha : a.size ≤ 64) : za.size ≤ 64 ∧ 64 ≤ za.size ∧ za.data.toList = pad a.data.toList := by
  subst hz h
  have hl : a.data.toList.length = a.size := by rw [Array.length_toList]; rfl
  have hs : (a ++ (⟨(zeros (64 - a.size)).toArray⟩ : ByteArray)).size = a.size + (64 - a.size) := by
    rw [ByteArray.size_append]
    congr 1
    show (zeros (64 - a.size)).toArray.size = _
    rw [List.size_toArray, zeros_length]
  refine ⟨by omega, by omega, ?_⟩
  rw [ByteArray.data_append, Array.toList_append]
  unfold pad
  rw [hl]

theorem Torn.fin0 {a old : ByteArray} {pa pc : Bs} (hPA : pa = pad a.data.toList) (hO : old.data.toList = pad a.data.toList) : (torn pa pc 0 == old.toList) = true := by
  rw [beq_iff_eq, ByteArray.toList_eq, hO, torn_none _ _ (by decide) (by decide), hPA]

theorem Torn.fin {a c fresh old : ByteArray} {pa pc : Bs} {f : Int} (hF : fresh.data.toList = pad c.data.toList) (hPA : pa = pad a.data.toList) (hPC : pc = pad c.data.toList) (hO : old.data.toList = pad a.data.toList) (m : Nat) (hm : much f = m) :
    (torn pa pc f == (fresh.extract 0 m ++ old.extract m old.size).toList) = true := by
  rw [beq_iff_eq, ByteArray.toList_eq, ByteArray.data_append, Array.toList_append, ByteArray.data_extract, ByteArray.data_extract, Array.toList_extract, Array.toList_extract, hF, hO]
  unfold torn
  rw [hm, hPA, hPC]
  have e : old.size = (pad a.data.toList).length := by rw [← hO, Array.length_toList]; rfl
  rw [e]
  simp only [List.extract, List.drop_zero, Nat.sub_zero]
  congr 1
  exact (List.take_of_length_le (by rw [List.length_drop]; exact Nat.le_refl _)).symm

set_option maxRecDepth 100000 in
set_option maxHeartbeats 2000000 in
theorem torn_near (a c : ByteArray) (f : Nat) (W : World) (ha : a.size ≤ 64) (hc : c.size ≤ 64) (hf : f < 256) : Calls Try.prog 3 #[.string a, .string c, .int .u8 f] W fun e w' => e = .returned (.bool true) ∧ Below W.heap.size W w' := by
  have h2 : decide (64 < a.size) = false := decide_eq_false (by omega)
  have h3 : decide (64 < c.size) = false := decide_eq_false (by omega)
  have hal : a.data.toList.length = a.size := by rw [Array.length_toList]; rfl
  have hcl : c.data.toList.length = c.size := by rw [Array.length_toList]; rfl
  have HAL := Lib.hid hal
  have HCL := Lib.hid hcl
  obtain ⟨pa, hpa⟩ : ∃ pa, pa = pad a.data.toList := ⟨_, rfl⟩
  obtain ⟨pc, hpc⟩ : ∃ pc, pc = pad c.data.toList := ⟨_, rfl⟩
  have hw1 : write (new 1) 0 a.data.toList = (⟨[zeros 64], [some pa], 0, false⟩, 0) := by rw [hpa]; exact write_free (i := 0) (by decide) (by omega)
  have hs1 : sync ⟨[zeros 64], [some pa], 0, false⟩ = (⟨[pa], [none], 0, false⟩, 0) := sync_free
  have hw2 : write ⟨[pa], [none], 0, false⟩ 0 c.data.toList = (⟨[pa], [some pc], 0, false⟩, 0) := by rw [hpc]; exact write_free (i := 0) (by simp) (by omega)
  have hw3 : write ⟨[pa], [some pc], 0, true⟩ 0 a.data.toList = (⟨[pa], [some pc], 0, true⟩, 180) := write_dead _ _
  have hs3 : sync ⟨[pa], [some pc], 0, true⟩ = (⟨[pa], [some pc], 0, true⟩, 180) := sync_dead
  have hon : on ⟨[pa], [some pc], 0, true⟩ [(f : Int)] = (⟨[torn pa pc f], [none], 0, false⟩, 0) := rfl
  have hon2 : on ⟨[torn pa pc f], [none], 0, false⟩ [] = (⟨[torn pa pc f], [none], 0, false⟩, 5) := rfl
  have hrd : read ⟨[torn pa pc f], [none], 0, false⟩ 0 = (torn pa pc f, 0) := rfl
  have HW1 := Lib.hid hw1
  have HS1 := Lib.hid hs1
  have HW2 := Lib.hid hw2
  have HW3 := Lib.hid hw3
  have HS3 := Lib.hid hs3
  have HON := Lib.hid hon
  have HON2 := Lib.hid hon2
  have HRD := Lib.hid hrd
  have HPA := Lib.hid hpa
  have HPC := Lib.hid hpc
  clear hal hcl hw1 hs1 hw2 hw3 hs3 hon hon2 hrd hpa hpc
  go_enter Try.func3, Try.ntmps3
  go_wp2_with fail
  refine (shown_any _).mono ?_
  rintro e w0 ⟨rfl, hb0⟩
  go_wp2_with fail
  refine (made 1 (by decide) (by decide) W w0 hb0).mono ?_
  rintro e w1 ⟨b, g, bm, rfl, h1, _⟩
  have H1 := Lib.hid h1
  clear h1
  go_wp2_with fail
  have c1 := H1.out.write 0 a (by omega)
  rw [HW1.out] at c1
  refine c1.mono ?_
  rintro e w2 ⟨rfl, h, _⟩
  have H2 := Lib.hid h
  clear c1 h H1
  go_wp2_with fail
  have c2 := H2.out.sync
  rw [HS1.out] at c2
  refine c2.mono ?_
  rintro e w3 ⟨rfl, h, _⟩
  have H3 := Lib.hid h
  clear c2 h H2
  go_wp2_with fail
  have c3 := H3.out.write 0 c (by omega)
  rw [HW2.out] at c3
  refine c3.mono ?_
  rintro e w4 ⟨rfl, h, _⟩
  have H4 := Lib.hid h
  clear c3 h H3
  go_wp2_with fail
  refine H4.out.cut.mono ?_
  rintro e w5 ⟨rfl, h, _⟩
  have H5 : Hid (At W w5 b g bm ⟨[pa], [some pc], 0, true⟩) := h
  clear h H4
  go_wp2_with fail
  have c6 := H5.out.write 0 a (by omega)
  rw [HW3.out] at c6
  refine c6.mono ?_
  rintro e w6 ⟨rfl, h, _⟩
  have H6 := Lib.hid h
  clear c6 h H5
  go_wp2_with fail
  have c7 := H6.out.sync
  rw [HS3.out] at c7
  refine c7.mono ?_
  rintro e w7 ⟨rfl, h, _⟩
  have H7 := Lib.hid h
  clear c7 h H6
  go_wp2_with fail
  have c8 := (H7.out.alloc (.cells #[.int .i64 (f : Int)] 3)).on _ [(f : Int)] (fates_one H7.out f (by omega))
  rw [HON.out] at c8
  refine c8.mono ?_
  rintro e w8 ⟨rfl, h, _⟩
  have H8 := Lib.hid h
  clear c8 h H7
  go_wp2_with fail
  have c9 := H8.out.on _ [] (fates_nil _)
  rw [HON2.out] at c9
  refine c9.mono ?_
  rintro e w9 ⟨rfl, h, _⟩
  have H9 := Lib.hid h
  clear c9 h H8
  obtain ⟨za, hza, hzas⟩ := zeros_text (64 - a.size)
  obtain ⟨zc, hzc, hzcs⟩ := zeros_text (64 - c.size)
  have hz1 : za.size ≤ 64 := by omega
  have hz2 : zc.size ≤ 64 := by omega
  have HZA := Lib.hid hza
  have HZC := Lib.hid hzc
  clear hza hzas hzc hzcs
  by_cases hf1 : f = 1
  · subst hf1
    go_wp2_with (first | (refine wpList_make_bytes rfl _ _ 30 5 rfl Try.underlying30 u8_info (64 - a.size) _ (by omega) rfl rfl (by omega) ?_) | (refine wpList_conv_new rfl 30 9 5 _ rfl Try.underlying30 Try.underlying5 Try.underlying9 w9 (zeros (64 - a.size)) 5 rfl _ _ _ rfl (zeros_length _).symm rfl za HZA.out ?_; have H10 := Lib.hid (H9.out.alloc (.cells (Lib.byteCells (zeros (64 - a.size))).toArray 5)); clear H9; generalize w9.alloc (.cells (Lib.byteCells (zeros (64 - a.size))).toArray 5) = wa at *) | (refine wpList_make_bytes rfl _ _ 30 5 rfl Try.underlying30 u8_info (64 - c.size) _ (by omega) rfl rfl (by omega) ?_) | (refine wpList_conv_new rfl 30 9 5 _ rfl Try.underlying30 Try.underlying5 Try.underlying9 wa (zeros (64 - c.size)) 5 rfl _ _ _ rfl (zeros_length _).symm rfl zc HZC.out ?_; have H11 := Lib.hid (H10.out.alloc (.cells (Lib.byteCells (zeros (64 - c.size))).toArray 5)); clear H10; generalize wa.alloc (.cells (Lib.byteCells (zeros (64 - c.size))).toArray 5) = wb at *))
    have c10 := H11.out.read 0
    rw [HRD.out] at c10
    refine c10.mono ?_
    rintro e w11 ⟨rfl, h, _⟩
    have H12 := Lib.hid h
    clear c10 h H11
    obtain ⟨old, hold⟩ : ∃ old, old = a ++ za := ⟨_, rfl⟩
    obtain ⟨fresh, hfresh⟩ : ∃ fresh, fresh = c ++ zc := ⟨_, rfl⟩
    rw [← hold, ← hfresh]
    have hol := (Torn.text_size HZA.out hold ha)
    have hfl := (Torn.text_size HZC.out hfresh hc)
    obtain ⟨ho1, ho2, hoB⟩ := hol
    obtain ⟨hf1, hf2, hfB⟩ := hfl
    have HOB := Lib.hid hoB
    have HFB := Lib.hid hfB
    have ho3 : (64 : Int) ≤ (old.size : Int) := by omega
    have hf3 : (64 : Int) ≤ (fresh.size : Int) := by omega
    clear hold hfresh hoB hfB
    go_wp2_with fail
    go_quiet (fail)
    go_wp2_with fail
    go_ret
    exact ⟨by show Ending.returned (.bool _) = _; rw [Torn.fin HFB.out HPA.out HPC.out HOB.out 64 rfl], (H12.out.drewN nq).bel⟩
  · have ht1 : ((f : Int) == 1) = false := beq_eq_false_iff_ne.2 (by omega)
    by_cases hf2 : 1 < f
    · have hf2' : (1 : Int) < (f : Int) := by omega
      obtain ⟨m, hm⟩ : ∃ m : Nat, ((f : Int) - 2) % 64 = (m : Int) := ⟨(((f : Int) - 2) % 64).toNat, by omega⟩
      have hm64 : (m : Int) ≤ 64 := by omega
      have hmu : much f = m := by unfold much; rw [if_neg (by omega), if_pos hf2', hm, Int.toNat_natCast]
      have HMU := Lib.hid hmu
      clear hmu
      go_wp2_with (first | (refine wpList_make_bytes rfl _ _ 30 5 rfl Try.underlying30 u8_info (64 - a.size) _ (by omega) rfl rfl (by omega) ?_) | (refine wpList_conv_new rfl 30 9 5 _ rfl Try.underlying30 Try.underlying5 Try.underlying9 w9 (zeros (64 - a.size)) 5 rfl _ _ _ rfl (zeros_length _).symm rfl za HZA.out ?_; have H10 := Lib.hid (H9.out.alloc (.cells (Lib.byteCells (zeros (64 - a.size))).toArray 5)); clear H9; generalize w9.alloc (.cells (Lib.byteCells (zeros (64 - a.size))).toArray 5) = wa at *) | (refine wpList_make_bytes rfl _ _ 30 5 rfl Try.underlying30 u8_info (64 - c.size) _ (by omega) rfl rfl (by omega) ?_) | (refine wpList_conv_new rfl 30 9 5 _ rfl Try.underlying30 Try.underlying5 Try.underlying9 wa (zeros (64 - c.size)) 5 rfl _ _ _ rfl (zeros_length _).symm rfl zc HZC.out ?_; have H11 := Lib.hid (H10.out.alloc (.cells (Lib.byteCells (zeros (64 - c.size))).toArray 5)); clear H10; generalize wa.alloc (.cells (Lib.byteCells (zeros (64 - c.size))).toArray 5) = wb at *))
      have c10 := H11.out.read 0
      rw [HRD.out] at c10
      refine c10.mono ?_
      rintro e w11 ⟨rfl, h, _⟩
      have H12 := Lib.hid h
      clear c10 h H11
      obtain ⟨old, hold⟩ : ∃ old, old = a ++ za := ⟨_, rfl⟩
      obtain ⟨fresh, hfresh⟩ : ∃ fresh, fresh = c ++ zc := ⟨_, rfl⟩
      rw [← hold, ← hfresh]
      have hol := (Torn.text_size HZA.out hold ha)
      have hfl := (Torn.text_size HZC.out hfresh hc)
      obtain ⟨ho1, ho2, hoB⟩ := hol
      obtain ⟨hf1, hf2, hfB⟩ := hfl
      have HOB := Lib.hid hoB
      have HFB := Lib.hid hfB
      have ho3 : (64 : Int) ≤ (old.size : Int) := by omega
      have hf3 : (64 : Int) ≤ (fresh.size : Int) := by omega
      clear hold hfresh hoB hfB
      go_wp2_with fail
      go_quiet (fail)
      go_wp2_with fail
      go_ret
      exact ⟨by show Ending.returned (.bool _) = _; rw [Torn.fin HFB.out HPA.out HPC.out HOB.out m HMU.out], (H12.out.drewN nq).bel⟩
    · have hf0 : f = 0 := by omega
      subst hf0
      go_wp2_with (first | (refine wpList_make_bytes rfl _ _ 30 5 rfl Try.underlying30 u8_info (64 - a.size) _ (by omega) rfl rfl (by omega) ?_) | (refine wpList_conv_new rfl 30 9 5 _ rfl Try.underlying30 Try.underlying5 Try.underlying9 w9 (zeros (64 - a.size)) 5 rfl _ _ _ rfl (zeros_length _).symm rfl za HZA.out ?_; have H10 := Lib.hid (H9.out.alloc (.cells (Lib.byteCells (zeros (64 - a.size))).toArray 5)); clear H9; generalize w9.alloc (.cells (Lib.byteCells (zeros (64 - a.size))).toArray 5) = wa at *) | (refine wpList_make_bytes rfl _ _ 30 5 rfl Try.underlying30 u8_info (64 - c.size) _ (by omega) rfl rfl (by omega) ?_) | (refine wpList_conv_new rfl 30 9 5 _ rfl Try.underlying30 Try.underlying5 Try.underlying9 wa (zeros (64 - c.size)) 5 rfl _ _ _ rfl (zeros_length _).symm rfl zc HZC.out ?_; have H11 := Lib.hid (H10.out.alloc (.cells (Lib.byteCells (zeros (64 - c.size))).toArray 5)); clear H10; generalize wa.alloc (.cells (Lib.byteCells (zeros (64 - c.size))).toArray 5) = wb at *))
      have c10 := H11.out.read 0
      rw [HRD.out] at c10
      refine c10.mono ?_
      rintro e w11 ⟨rfl, h, _⟩
      have H12 := Lib.hid h
      clear c10 h H11
      obtain ⟨old, hold⟩ : ∃ old, old = a ++ za := ⟨_, rfl⟩
      obtain ⟨fresh, hfresh⟩ : ∃ fresh, fresh = c ++ zc := ⟨_, rfl⟩
      rw [← hold, ← hfresh]
      have hol := (Torn.text_size HZA.out hold ha)
      have hfl := (Torn.text_size HZC.out hfresh hc)
      obtain ⟨ho1, ho2, hoB⟩ := hol
      obtain ⟨hf1, hf2, hfB⟩ := hfl
      have HOB := Lib.hid hoB
      have HFB := Lib.hid hfB
      have ho3 : (64 : Int) ≤ (old.size : Int) := by omega
      have hf3 : (64 : Int) ≤ (fresh.size : Int) := by omega
      clear hold hfresh hoB hfB
      go_wp2_with fail
      go_quiet (fail)
      go_wp2_with fail
      go_ret
      exact ⟨by show Ending.returned (.bool _) = _; rw [Torn.fin0 HPA.out HOB.out], (H12.out.drewN nq).bel⟩

theorem torn_walk (a0 a1 : ByteArray) (a2 : Int) (W : World) (_h0 : a0.size ≤ 140737488351232) (_h1 : a1.size ≤ 140737488351232) (h2 : (Lit.int .u8 a2).wf = true) :
    Calls Try.prog 3 #[.string a0, .string a1, .int .u8 a2] W fun e w' => e = .returned (.bool true) ∧ Below W.heap.size W w' := by
  obtain ⟨b0, b1⟩ := bounds_u8 h2
  obtain ⟨f, rfl⟩ := Int.eq_ofNat_of_zero_le b0
  by_cases ha : a0.size ≤ 64
  · by_cases hc : a1.size ≤ 64
    · exact torn_near a0 a1 f W ha hc (by omega)
    · exact torn_far a0 a1 f W (.inr (by omega))
  · exact torn_far a0 a1 f W (.inl (by omega))
end Go.Proofs.Ytoafebndlldclaa.Dk
