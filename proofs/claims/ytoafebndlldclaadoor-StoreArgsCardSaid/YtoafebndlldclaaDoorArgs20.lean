/- The call of the law StoreArgs is proved: it answers true, whatever the disk's size and the text's length. -/
import Derived.Test.YtoafebndlldclaaDoorStoreG
import Derived.Test.YtoafebndlldclaaDoorStoreQ
import Derived.OpenShut
namespace Go.Proofs.YtoafebndlldclaaDoor.St
open Go Go.RowKit Go.Shelf Dk Fr Wl

set_option maxRecDepth 100000 in
set_option maxHeartbeats 8000000 in
theorem args_small (c d : Nat) (n : Nat) (hc : c < 256) (hn : n = 1 + c % 60) (h8 : n < 8) (W : World) :
    Calls Tryd.prog 5 #[.int .u8 c, .int .u16 d] W fun e w' => e = .returned (.bool true) ∧ Below W.heap.size W w' := by
  have a1 : 1 + (c : Int) % 60 = (n : Int) := by omega
  have a2 : 1 + (c : Int).tmod 60 = (n : Int) := by rw [Int.tmod_eq_emod_of_nonneg (by omega)]; omega
  have h1 : 1 ≤ n := by omega
  have HSH := Lib.hid (fun w => shown20 w)
  have HO := Lib.hid (open_small (D := new n) (by rw [new_len]; exact h8))
  have HF := Lib.hid (format_small (D := new n) (by rw [new_len]; exact h8) [97])
  clear hn
  go_enter Tryd.func5, Tryd.ntmps5
  go_wp2_with fail
  refine (made n h1 (by omega) W W (Below.refl _ _)).mono ?_
  rintro e w1 ⟨b, g, bm, rfl, h1', _⟩
  have H1 := Lib.hid h1'
  clear h1'
  go_wp2_with fail
  refine (HSH.out _).mono ?_
  rintro e w2 ⟨rfl, hb⟩
  have C1 := Lib.hid (at_sopen_no (H1.out.below hb) HO.out)
  clear hb
  go_wp2_with fail
  refine C1.out.mono ?_
  rintro e w3 ⟨v3, rfl, h3, _, _⟩
  have C2 := Lib.hid (at_format_no h3 [97] (by decide) HF.out)
  clear C1 h3
  go_wp2_with fail
  refine C2.out.mono ?_
  rintro e w4 ⟨rfl, h4, _⟩
  have H4 := Lib.hid h4.bel
  clear C2 h4
  go_wp2
  go_ret
  exact ⟨rfl, H4.out⟩

set_option maxRecDepth 100000 in
set_option maxHeartbeats 8000000 in
theorem args_near (c d : Nat) (n m : Nat) (hc : c < 256) (hd : d < 65536) (hn : n = 1 + c % 60) (hm : m = d % 9000) (h8 : 8 ≤ n) (W : World) :
    Calls Tryd.prog 5 #[.int .u8 c, .int .u16 d] W fun e w' => e = .returned (.bool true) ∧ Below W.heap.size W w' := by
  have a1 : 1 + (c : Int) % 60 = (n : Int) := by omega
  have a2 : 1 + (c : Int).tmod 60 = (n : Int) := by rw [Int.tmod_eq_emod_of_nonneg (by omega)]; omega
  have b1 : (d : Int) % 9000 = (m : Int) := by omega
  have b2 : (d : Int).tmod 9000 = (m : Int) := by rw [Int.tmod_eq_emod_of_nonneg (by omega)]; omega
  have hn60 : n ≤ 60 := by omega
  have hm9 : m < 9000 := by omega
  obtain ⟨D1, D2, D3, D4, D5, S1, S2, S3, S4, S5, g, snap, recs, hS⟩ := args_plain h8 (by omega) m
  obtain ⟨zz, hzz, hzs⟩ := zeros_text m
  have HZZ := Lib.hid hzz
  have HSH := Lib.hid (fun w => shown20 w)
  have HO := Lib.hid (open_none_new h8 (show n ≤ 4096 by omega))
  have HS := Lib.hid hS
  have HFI := Lib.hid (fun w => fits_call n (by omega) zz (by omega) w)
  have hfi : (zz.size + 24 ≤ 64 * slotN n) ↔ ¬ (64 * slotN n < m + 24) := by omega
  have HFJ := Lib.hid hfi
  clear hn hm hS hzz hfi
  go_enter Tryd.func5, Tryd.ntmps5
  go_wp2_with fail
  refine (made n (by omega) (by omega) W W (Below.refl _ _)).mono ?_
  rintro e w1 ⟨b, bg, bm, rfl, h1', _⟩
  have H1 := Lib.hid h1'
  clear h1'
  go_wp2_with fail
  refine (HSH.out _).mono ?_
  rintro e w2 ⟨rfl, hb⟩
  have C1 := Lib.hid (at_sopen_no (H1.out.below hb) HO.out)
  clear hb
  go_wp2_with fail
  refine C1.out.mono ?_
  rintro e w3 ⟨v3, rfl, h3, _, _⟩
  have C2 := Lib.hid (at_format h3 [97] (by decide) HS.out.r1)
  clear C1 h3
  go_wp2_with fail
  refine C2.out.mono ?_
  rintro e w4 ⟨sb, lb, rfl, h4, _⟩
  have H4 := Lib.hid h4
  clear C2 h4
  go_wp2_with (first | (refine wpList_make_bytes rfl _ _ 34 5 rfl Tryd.underlying34 u8_info m _ (by omega) rfl rfl (by omega) ?_) | (refine wpList_conv_new rfl 34 9 5 _ rfl Tryd.underlying34 Tryd.underlying5 Tryd.underlying9 w4 (zeros m) 5 rfl _ _ _ rfl (zeros_length _).symm rfl zz HZZ.out ?_; have H5 := Lib.hid (H4.out.alloc (.cells (Lib.byteCells (zeros m)).toArray 5)); clear H4; generalize w4.alloc (.cells (Lib.byteCells (zeros m)).toArray 5) = w5 at *))
  by_cases hb : 8192 < m
  · have hg := HS.out.hg
    rw [if_pos hb] at hg
    subst hg
    obtain ⟨rfl, rfl⟩ := HS.out.no (by decide)
    have cfi := HFI.out w5
    rw [show decide (zz.size + 24 ≤ 64 * slotN n) = false from decide_eq_false (by have := slot_le n; omega)] at cfi
    have CFI := Lib.hid cfi
    clear cfi
    go_wp2_with fail
    refine CFI.out.mono ?_
    rintro e w6 ⟨rfl, hb6⟩
    have H6 := Lib.hid (H5.out.below hb6)
    clear hb6
    have C3 := Lib.hid ((H6.out.alloc (.cells #[.string ⟨#[98]⟩] 9)).append HS.out.s1 _ [[98]] (row_new w6 [[98]] (by simp)) (by simp) HS.out.r2)
    go_wp2_with fail
    refine C3.out.mono ?_
    rintro e w7 ⟨rfl, h7, _⟩
    have c4 := h7.compact HS.out.a2 HS.out.b2 (zeros m) (by rw [zeros_length]; omega) HS.out.r3
    rw [← HZZ.out] at c4
    have C4 := Lib.hid c4
    clear C3 h7 c4
    go_wp2_with fail
    refine C4.out.mono ?_
    rintro e w8 ⟨rfl, lb8, h8', _⟩
    have H8 := Lib.hid h8'
    have c5 := at_sopen h8'.at_ HS.out.r4
    have C5 := Lib.hid c5
    clear C4 h8' c5
    go_wp2_with fail
    refine C5.out.mono ?_
    rintro e w9 ⟨sb9, lb9, v9, rfl, h9, t9, k9⟩
    obtain ⟨a9, c9, rfl⟩ := t9.len
    have H9 := Lib.hid (H8.out.disk h9.at_ k9)
    clear C5 h9 t9 k9
    have C6 := Lib.hid (H9.out.at_.cut)
    rw [show List.length ([[98]] : List Bs) = 1 from rfl]
    go_wp2_with fail
    refine C6.out.mono ?_
    rintro e w10 ⟨rfl, h10, k10⟩
    have H10 := Lib.hid (H9.out.disk h10 k10)
    have C7 := Lib.hid (at_sopen_no h10 HS.out.r5)
    clear C6 h10 k10
    go_wp2_with fail
    refine C7.out.mono ?_
    rintro e w11 ⟨v11, rfl, h11, _, k11⟩
    have H11 := Lib.hid (H10.out.disk h11 k11)
    have C8 := Lib.hid ((H11.out.alloc (.cells #[.string ⟨#[99]⟩] 9)).append HS.out.s3 _ [[99]] (row_new w11 [[99]] (by simp)) (by simp) HS.out.r6)
    clear C7 h11 k11
    go_wp2_with fail
    refine C8.out.mono ?_
    rintro e w12 ⟨rfl, h12, _⟩
    have C9 := Lib.hid (h12.compact HS.out.a5 HS.out.b5 [99] (by decide) HS.out.r7)
    clear C8 h12
    go_wp2_with fail
    refine C9.out.mono ?_
    rintro e w13 ⟨rfl, lb13, h13, _⟩
    have HB := Lib.hid h13.bel
    clear C9 h13
    go_wp2
    go_ret
    exact ⟨rfl, HB.out⟩
  · by_cases hf : 64 * slotN n < m + 24
    · have hg := HS.out.hg
      rw [if_neg hb, if_pos hf] at hg
      subst hg
      obtain ⟨rfl, rfl⟩ := HS.out.no (by decide)
      have cfi := HFI.out w5
      rw [show decide (zz.size + 24 ≤ 64 * slotN n) = false from decide_eq_false (fun h => HFJ.out.1 h hf)] at cfi
      have CFI := Lib.hid cfi
      clear cfi
      clear hf
      go_wp2_with fail
      refine CFI.out.mono ?_
      rintro e w6 ⟨rfl, hb6⟩
      have H6 := Lib.hid (H5.out.below hb6)
      clear hb6
      have C3 := Lib.hid ((H6.out.alloc (.cells #[.string ⟨#[98]⟩] 9)).append HS.out.s1 _ [[98]] (row_new w6 [[98]] (by simp)) (by simp) HS.out.r2)
      go_wp2_with fail
      refine C3.out.mono ?_
      rintro e w7 ⟨rfl, h7, _⟩
      have c4 := h7.compact HS.out.a2 HS.out.b2 (zeros m) (by rw [zeros_length]; omega) HS.out.r3
      rw [← HZZ.out] at c4
      have C4 := Lib.hid c4
      clear C3 h7 c4
      go_wp2_with fail
      refine C4.out.mono ?_
      rintro e w8 ⟨rfl, lb8, h8', _⟩
      have H8 := Lib.hid h8'
      have c5 := at_sopen h8'.at_ HS.out.r4
      have C5 := Lib.hid c5
      clear C4 h8' c5
      go_wp2_with fail
      refine C5.out.mono ?_
      rintro e w9 ⟨sb9, lb9, v9, rfl, h9, t9, k9⟩
      obtain ⟨a9, c9, rfl⟩ := t9.len
      have H9 := Lib.hid (H8.out.disk h9.at_ k9)
      clear C5 h9 t9 k9
      have C6 := Lib.hid (H9.out.at_.cut)
      rw [show List.length ([[98]] : List Bs) = 1 from rfl]
      go_wp2_with fail
      refine C6.out.mono ?_
      rintro e w10 ⟨rfl, h10, k10⟩
      have H10 := Lib.hid (H9.out.disk h10 k10)
      have C7 := Lib.hid (at_sopen_no h10 HS.out.r5)
      clear C6 h10 k10
      go_wp2_with fail
      refine C7.out.mono ?_
      rintro e w11 ⟨v11, rfl, h11, _, k11⟩
      have H11 := Lib.hid (H10.out.disk h11 k11)
      have C8 := Lib.hid ((H11.out.alloc (.cells #[.string ⟨#[99]⟩] 9)).append HS.out.s3 _ [[99]] (row_new w11 [[99]] (by simp)) (by simp) HS.out.r6)
      clear C7 h11 k11
      go_wp2_with fail
      refine C8.out.mono ?_
      rintro e w12 ⟨rfl, h12, _⟩
      have C9 := Lib.hid (h12.compact HS.out.a5 HS.out.b5 [99] (by decide) HS.out.r7)
      clear C8 h12
      go_wp2_with fail
      refine C9.out.mono ?_
      rintro e w13 ⟨rfl, lb13, h13, _⟩
      have HB := Lib.hid h13.bel
      clear C9 h13
      go_wp2
      go_ret
      exact ⟨rfl, HB.out⟩
    · have hg := HS.out.hg
      rw [if_neg hb, if_neg hf] at hg
      subst hg
      obtain ⟨rfl, rfl⟩ := HS.out.yes rfl
      have cfi := HFI.out w5
      rw [show decide (zz.size + 24 ≤ 64 * slotN n) = true from decide_eq_true (HFJ.out.2 hf)] at cfi
      have CFI := Lib.hid cfi
      clear cfi
      clear hf
      go_wp2_with fail
      refine CFI.out.mono ?_
      rintro e w6 ⟨rfl, hb6⟩
      have H6 := Lib.hid (H5.out.below hb6)
      clear hb6
      have C3 := Lib.hid ((H6.out.alloc (.cells #[.string ⟨#[98]⟩] 9)).append HS.out.s1 _ [[98]] (row_new w6 [[98]] (by simp)) (by simp) HS.out.r2)
      go_wp2_with fail
      refine C3.out.mono ?_
      rintro e w7 ⟨rfl, h7, _⟩
      have c4 := h7.compact HS.out.a2 HS.out.b2 (zeros m) (by rw [zeros_length]; omega) HS.out.r3
      rw [← HZZ.out] at c4
      have C4 := Lib.hid c4
      clear C3 h7 c4
      go_wp2_with fail
      refine C4.out.mono ?_
      rintro e w8 ⟨rfl, lb8, h8', _⟩
      have H8 := Lib.hid h8'
      have c5 := at_sopen h8'.at_ HS.out.r4
      simp only [← HZZ.out] at c5
      have C5 := Lib.hid c5
      clear C4 h8' c5
      go_wp2_with fail
      refine C5.out.mono ?_
      rintro e w9 ⟨sb9, lb9, v9, rfl, h9, t9, k9⟩
      obtain ⟨a9, c9, rfl⟩ := t9.len
      have H9 := Lib.hid (H8.out.disk h9.at_ k9)
      clear C5 h9 t9 k9
      have C6 := Lib.hid (H9.out.at_.cut)
      rw [List.length_nil]
      go_wp2_with fail
      refine C6.out.mono ?_
      rintro e w10 ⟨rfl, h10, k10⟩
      have H10 := Lib.hid (H9.out.disk h10 k10)
      have C7 := Lib.hid (at_sopen_no h10 HS.out.r5)
      clear C6 h10 k10
      go_wp2_with fail
      refine C7.out.mono ?_
      rintro e w11 ⟨v11, rfl, h11, _, k11⟩
      have H11 := Lib.hid (H10.out.disk h11 k11)
      have C8 := Lib.hid ((H11.out.alloc (.cells #[.string ⟨#[99]⟩] 9)).append HS.out.s3 _ [[99]] (row_new w11 [[99]] (by simp)) (by simp) HS.out.r6)
      clear C7 h11 k11
      go_wp2_with fail
      refine C8.out.mono ?_
      rintro e w12 ⟨rfl, h12, _⟩
      have C9 := Lib.hid (h12.compact HS.out.a5 HS.out.b5 [99] (by decide) HS.out.r7)
      clear C8 h12
      go_wp2_with fail
      refine C9.out.mono ?_
      rintro e w13 ⟨rfl, lb13, h13, _⟩
      have HB := Lib.hid h13.bel
      clear C9 h13
      go_wp2
      go_ret
      exact ⟨rfl, HB.out⟩

theorem args_walk (a1 a2 : Int) (W : World) (w1 : (Lit.int .u8 a1).wf = true) (w2 : (Lit.int .u16 a2).wf = true) :
    Calls Tryd.prog 5 #[.int .u8 a1, .int .u16 a2] W fun e w' => e = .returned (.bool true) ∧ Below W.heap.size W w' := by
  obtain ⟨b0, b1⟩ := bounds_u8 w1
  obtain ⟨c0, c1⟩ := bounds_u16 w2
  obtain ⟨c, rfl⟩ := Int.eq_ofNat_of_zero_le b0
  obtain ⟨d, rfl⟩ := Int.eq_ofNat_of_zero_le c0
  by_cases h8 : 1 + c % 60 < 8
  · exact args_small c d _ (by omega) rfl h8 W
  · exact args_near c d _ _ (by omega) (by omega) rfl rfl (by omega) W
end Go.Proofs.YtoafebndlldclaaDoor.St
