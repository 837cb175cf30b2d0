/- The call of the law WalBytes is proved: it answers true, whatever the place, the epoch and the texts. -/
import Derived.Test.YtoafebndlldclaaDoorBytesP
import Derived.Test.YtoafebndlldclaaDoorDg
import Derived.OpenShut
namespace Go.Proofs.YtoafebndlldclaaDoor.Wl
open Go Go.RowKit Go.Shelf Dk Fr Go.Proofs.YtoafebndlldclaaDoorW.PrintWords Go.Proofs.YtoafebndlldclaaDoorW.PrintLast

set_option maxRecDepth 100000 in
set_option maxHeartbeats 8000000 in
theorem bytes_near (va vb : Value) (f sz ep : Nat) (l m : List Bs) (W : World) (RA : RowT W va l) (RB : RowT W vb m) (hl : l.length ≤ 100) (hm : m.length ≤ 100) (hsl : ∀ t ∈ l, t.length ≤ 9223372036854775807) (hsm : ∀ t ∈ m, t.length ≤ 9223372036854775807)
    (hf : f < 256) (hsz : sz < 256) (he : ep < 18446744073709551616) :
    Calls Tryd.prog 8 #[.int .u8 f, .int .u8 sz, .int .u64 ep, va, vb] W fun e w' => e = .returned (.bool true) ∧ Below W.heap.size W w' := by
  obtain ⟨a, ha⟩ : ∃ a : Nat, a = f % 20 := ⟨_, rfl⟩
  obtain ⟨c, hc⟩ : ∃ c : Nat, c = sz % 20 := ⟨_, rfl⟩
  obtain ⟨b2, hb2⟩ : ∃ b2 : Nat, b2 = a + 1 + c := ⟨_, rfl⟩
  have ha20 : a < 20 := by omega
  have hc20 : c < 20 := by omega
  have a1 : (f : Int) % 20 = (a : Int) := by omega
  have a2 : (f : Int).tmod 20 = (a : Int) := by rw [Int.tmod_eq_emod_of_nonneg (by omega)]; omega
  have c1 : (sz : Int) % 20 = (c : Int) := by omega
  have c2 : (sz : Int).tmod 20 = (c : Int) := by rw [Int.tmod_eq_emod_of_nonneg (by omega)]; omega
  have b1 : (a : Int) + 1 + (c : Int) = (b2 : Int) := by omega
  obtain ⟨aA, cA, rfl⟩ := RA.len
  obtain ⟨aB, cB, rfl⟩ := RB.len
  have hsx : ∀ t ∈ cutL l, t.length ≤ 8192 := fun t ht => by have := cut_small l t ht; omega
  have hsy : ∀ t ∈ cutL m, t.length ≤ 8192 := fun t ht => by have := cut_small m t ht; omega
  obtain ⟨D1, L1, r1, o1⟩ := open_ok (fr := a) (to_ := b2) (ep := ep) (new_calm (n := 40) (by omega) (by omega)) (by omega) (by rw [new_len]; omega) he rfl (recs := []) (by rw [bytes_new 40 _ _ (by omega)]; exact told_zeros he _)
  have HSH := Lib.hid (fun w => shown19 w)
  have HRA := Lib.hid RA
  have HRB := Lib.hid RB
  have HSL := Lib.hid hsl
  have HSM := Lib.hid hsm
  have HSX := Lib.hid hsx
  have HSY := Lib.hid hsy
  have HB2 := Lib.hid hb2
  have R1 := Lib.hid r1
  have O1 := Lib.hid o1
  have HCX := Lib.hid (cut_len l)
  have HCY := Lib.hid (cut_len m)
  clear RA RB hsl hsm hsx hsy r1 o1 ha hc hb2
  have hb40 : b2 ≤ 40 := by have := HB2.out; omega
  have hab : a < b2 := by have := HB2.out; omega
  go_enter Tryd.func8, Tryd.ntmps8
  go_wp2_with fail
  refine (made 40 (by decide) (by decide) W W (Below.refl _ _)).mono ?_
  rintro e w1 ⟨b, g, bm, rfl, h1, _⟩
  have H1 := Lib.hid h1
  clear h1
  go_wp2_with fail
  refine (HSH.out _).mono ?_
  rintro e w2 ⟨rfl, hb⟩
  have H2 := Lib.hid (H1.out.below hb)
  clear hb
  have C1 := Lib.hid (cut_any (at_row H2.out HRA.out) (by omega) HSL.out)
  go_wp2_with fail
  refine C1.out.mono ?_
  rintro e w3 ⟨vx, rfl, tx, hb3⟩
  have H3 := Lib.hid (H2.out.below hb3)
  have TX := Lib.hid tx
  clear C1 tx hb3
  have C2 := Lib.hid (cut_any (at_row H3.out HRB.out) (by omega) HSM.out)
  go_wp2_with fail
  refine C2.out.mono ?_
  rintro e w4 ⟨vy, rfl, ty, hb4⟩
  have H4 := Lib.hid (H3.out.below hb4)
  have TY := Lib.hid ty
  have TX4 := Lib.hid (TX.out.below hb4 (Nat.le_refl _))
  clear C2 ty hb4 TX
  have C3 := Lib.hid (at_openLog H4.out R1.out)
  go_wp2_with fail
  refine C3.out.mono ?_
  rintro e w5 ⟨lb, v5, rfl, h5, _, k5, _⟩
  obtain ⟨aX, cX, rfl⟩ := TX4.out.len
  obtain ⟨aY, cY, rfl⟩ := TY.out.len
  have TX5 := Lib.hid (TX4.out.kp k5 (fun k _ _ hs => at_notText H4.out hs))
  have TY5 := Lib.hid (TY.out.kp k5 (fun k _ _ hs => at_notText H4.out hs))
  have H5 := Lib.hid h5
  clear C3 h5 k5 TX4 TY
  have hrm2 : 64 * (b2 - a) ≤ 2560 := by omega
  go_wp2
  obtain ⟨wB, hwB⟩ : ∃ wB, wB = w5 := ⟨_, rfl⟩
  have HLG : Hid (LogOn W wB b g bm lb D1 L1) := Lib.hid (hwB ▸ H5.out)
  have HX5 : Hid (Texts wB w2.heap.size (.slice aX (cutL l).length cX) (cutL l)) := Lib.hid (hwB ▸ TX5.out)
  have HY5 : Hid (Texts wB w3.heap.size (.slice aY (cutL m).length cY) (cutL m)) := Lib.hid (hwB ▸ TY5.out)
  subst hwB
  go_loopw [20, 21, 22, 23] (fun v i _ _ wr => Loop1 W wB b g bm lb a b2 ep i v wr) (fun _ i _ _ _ => 2 - (intOf i).toNat)
  case atStart =>
    exact ⟨0, [], D1, L1, rfl, by omega, by simp, HLG.out.alloc _, O1.out, (Kp.refl _ wB).alloc _, texts_empty wB, by simp⟩
  case round =>
    obtain ⟨j, hv, D, L, rfl, hj, hlv, hat⟩ := hrel
    obtain ⟨av, cv, rfl⟩ := hat.txt.len
    have HAT := Lib.hid hat
    have HLV := Lib.hid hlv
    clear hat hlv
    by_cases hj0 : j = 0
    · subst hj0
      have hrow : RowT wr _ (cutL l) := (texts_at HLG.out HX5.out HAT.out.kp).row
      obtain ⟨hv2, D2, L2, x2, hbs⟩ := bytes_step (texts := cutL l) HAT.out.op HSX.out
      have hwa := HAT.out.log.append HAT.out.op.good.sane _ _ hrow (by have := HCX.out; omega) hbs.r
      have HBS := Lib.hid hbs
      have HWA := Lib.hid hwa
      clear hbs hwa hrow
      go_wp2_with fail
      refine HWA.out.mono ?_
      rintro e w6 ⟨rfl, h6, k6⟩
      have t6 := HAT.out.txt.kp k6 (fun _ _ _ hs => HAT.out.log.notText hs)
      have kb6 := HAT.out.kp.trans k6
      have r6 := texts_at HLG.out HX5.out kb6
      have H6 := Lib.hid h6
      have K6 := Lib.hid kb6
      have T6 := Lib.hid t6
      have R6 := Lib.hid r6
      clear h6 k6 t6 r6 kb6
      have hszx := szs_cut l
      have hfit := HAT.out.op.good.fit
      rw [HAT.out.op.efr, HAT.out.op.eto] at hfit
      have s1 := Lib.hid (size19 T6.out.row (by omega))
      have s2 := Lib.hid (fun w7 (hb7 : Below w6.heap.size w6 w7) => size19 (R6.out.row.kept hb7) (by omega))
      go_wp2_with fail
      refine s1.out.mono ?_
      rintro e w7 ⟨rfl, hb7⟩
      have H7 := Lib.hid hb7
      clear s1 hb7
      go_wp2_with fail
      refine (s2.out _ H7.out).mono ?_
      rintro e w8 ⟨rfl, hb8⟩
      have HB8 := Lib.hid (H7.out.trans (hb8.mono H7.out.size))
      clear s2 hb8 H7
      have hds : decide ((szs hv : Int) + (szs (cutL l) : Int) ≤ 64 * ((b2 - a : Nat) : Int)) = decide (szs hv + szs (cutL l) ≤ 64 * (b2 - a)) := by
        rw [decide_eq_decide]; omega
      by_cases hf : szs hv + szs (cutL l) ≤ 64 * (b2 - a)
      · obtain ⟨rfl, rfl⟩ := HBS.out.yes hf
        have hdt : decide ((szs hv : Int) + (szs (cutL l) : Int) ≤ 64 * ((b2 - a : Nat) : Int)) = true := by rw [hds]; exact decide_eq_true hf
        have hlx := HCX.out
        have T8 := Lib.hid (T6.out.below HB8.out (Nat.le_refl _))
        have R8 := Lib.hid (R6.out.below HB8.out (Nat.le_refl _))
        have hz8 : wB.heap.size ≤ w8.heap.size := Nat.le_trans K6.out.size HB8.out.size
        go_wp2_with (refine wpList_append_texts rfl _ _ rfl wB.heap.size _ hv rfl T8.out _ _ (cutL l) rfl R8.out (by have := HLV.out; omega) hz8 ?_; intro v9 w9 t9 g9; have T9 := Lib.hid t9; have G9 := Lib.hid g9; clear t9 g9)
        have h8 := H6.out.below HB8.out
        exact ⟨⟨0+1, hv ++ cutL l, D2, L2, rfl, by omega, by have := HLV.out; rw [List.length_append]; omega, h8.grown G9.out (fun k hk => ⟨Nat.le_trans HLG.out.at_.bel.size (T8.out.own_text hk).1, h8.notText (T8.out.own_text hk).2⟩), HBS.out.op,
          (K6.out.trans (Kp.of_below HB8.out)).grownBy G9.out (fun k hk => .inr (T8.out.own_text hk).1), T9.out, by have := HLV.out; rw [List.length_append]; omega⟩, by simp [intOf]⟩
      · obtain ⟨rfl, rfl⟩ := HBS.out.no hf
        have hdt : decide ((szs hv2 : Int) + (szs (cutL l) : Int) ≤ 64 * ((b2 - a : Nat) : Int)) = false := by rw [hds]; exact decide_eq_false hf
        go_wp2
        exact ⟨⟨0+1, _, D2, L2, rfl, by omega, by have := HLV.out; omega, H6.out.below HB8.out, HBS.out.op, K6.out.trans (Kp.of_below HB8.out), T6.out.below HB8.out (Nat.le_refl _), HAT.out.few⟩, by simp [intOf]⟩
    · by_cases hj1 : j = 1
      · subst hj1
        have hrow : RowT wr _ (cutL m) := (texts_at HLG.out HY5.out HAT.out.kp).row
        obtain ⟨hv2, D2, L2, x2, hbs⟩ := bytes_step (texts := cutL m) HAT.out.op HSY.out
        have hwa := HAT.out.log.append HAT.out.op.good.sane _ _ hrow (by have := HCY.out; omega) hbs.r
        have HBS := Lib.hid hbs
        have HWA := Lib.hid hwa
        clear hbs hwa hrow
        go_wp2_with fail
        refine HWA.out.mono ?_
        rintro e w6 ⟨rfl, h6, k6⟩
        have t6 := HAT.out.txt.kp k6 (fun _ _ _ hs => HAT.out.log.notText hs)
        have kb6 := HAT.out.kp.trans k6
        have r6 := texts_at HLG.out HY5.out kb6
        have H6 := Lib.hid h6
        have K6 := Lib.hid kb6
        have T6 := Lib.hid t6
        have R6 := Lib.hid r6
        clear h6 k6 t6 r6 kb6
        have hszx := szs_cut m
        have hfit := HAT.out.op.good.fit
        rw [HAT.out.op.efr, HAT.out.op.eto] at hfit
        have s1 := Lib.hid (size19 T6.out.row (by omega))
        have s2 := Lib.hid (fun w7 (hb7 : Below w6.heap.size w6 w7) => size19 (R6.out.row.kept hb7) (by omega))
        go_wp2_with fail
        refine s1.out.mono ?_
        rintro e w7 ⟨rfl, hb7⟩
        have H7 := Lib.hid hb7
        clear s1 hb7
        go_wp2_with fail
        refine (s2.out _ H7.out).mono ?_
        rintro e w8 ⟨rfl, hb8⟩
        have HB8 := Lib.hid (H7.out.trans (hb8.mono H7.out.size))
        clear s2 hb8 H7
        have hds : decide ((szs hv : Int) + (szs (cutL m) : Int) ≤ 64 * ((b2 - a : Nat) : Int)) = decide (szs hv + szs (cutL m) ≤ 64 * (b2 - a)) := by
          rw [decide_eq_decide]; omega
        by_cases hf : szs hv + szs (cutL m) ≤ 64 * (b2 - a)
        · obtain ⟨rfl, rfl⟩ := HBS.out.yes hf
          have hdt : decide ((szs hv : Int) + (szs (cutL m) : Int) ≤ 64 * ((b2 - a : Nat) : Int)) = true := by rw [hds]; exact decide_eq_true hf
          have hlx := HCY.out
          have T8 := Lib.hid (T6.out.below HB8.out (Nat.le_refl _))
          have R8 := Lib.hid (R6.out.below HB8.out (Nat.le_refl _))
          have hz8 : wB.heap.size ≤ w8.heap.size := Nat.le_trans K6.out.size HB8.out.size
          go_wp2_with (refine wpList_append_texts rfl _ _ rfl wB.heap.size _ hv rfl T8.out _ _ (cutL m) rfl R8.out (by have := HLV.out; omega) hz8 ?_; intro v9 w9 t9 g9; have T9 := Lib.hid t9; have G9 := Lib.hid g9; clear t9 g9)
          have h8 := H6.out.below HB8.out
          exact ⟨⟨1+1, hv ++ cutL m, D2, L2, rfl, by omega, by have := HLV.out; rw [List.length_append]; omega, h8.grown G9.out (fun k hk => ⟨Nat.le_trans HLG.out.at_.bel.size (T8.out.own_text hk).1, h8.notText (T8.out.own_text hk).2⟩), HBS.out.op,
            (K6.out.trans (Kp.of_below HB8.out)).grownBy G9.out (fun k hk => .inr (T8.out.own_text hk).1), T9.out, by have := HLV.out; rw [List.length_append]; omega⟩, by simp [intOf]⟩
        · obtain ⟨rfl, rfl⟩ := HBS.out.no hf
          have hdt : decide ((szs hv2 : Int) + (szs (cutL m) : Int) ≤ 64 * ((b2 - a : Nat) : Int)) = false := by rw [hds]; exact decide_eq_false hf
          go_wp2
          exact ⟨⟨1+1, _, D2, L2, rfl, by omega, by have := HLV.out; omega, H6.out.below HB8.out, HBS.out.op, K6.out.trans (Kp.of_below HB8.out), T6.out.below HB8.out (Nat.le_refl _), HAT.out.few⟩, by simp [intOf]⟩
      · obtain rfl : j = 2 := by omega
        obtain ⟨S, hS⟩ : ∃ S, S = enc ep 0 hv := ⟨_, rfl⟩
        have hfit := HAT.out.op.good.fit
        rw [HAT.out.op.efr, HAT.out.op.eto] at hfit
        have hsl : S.length = szs hv := by rw [hS, enc_length]
        have hby := bytes19 ep HAT.out.txt.row (by omega) HAT.out.op.good.small
        rw [← hS] at hby
        have HBY := Lib.hid hby
        have HS := Lib.hid hS
        clear hby hS
        go_wp2_with fail
        refine HBY.out.mono ?_
        rintro e w6 ⟨rfl, hb6⟩
        have H6 := Lib.hid (HAT.out.log.below hb6)
        clear HBY hb6
        go_wp2
        go_loopw [25, 26, 27, 28] (fun i _ _ _ wr => Loop2 W b g bm lb D L i wr) (fun i _ _ _ _ => 40 - (intOf i).toNat)
        case atStart => exact ⟨0, rfl, by omega, H6.out⟩
        case round =>
          obtain ⟨j, rfl, hj, hlo⟩ := hrel
          have HLO := Lib.hid hlo
          clear hlo
          by_cases hj40 : j < 40
          · have hD := HAT.out.op
            have hlen : D.olds.length = 40 := by rw [hD.beside.len, new_len]
            have hw0 : within D (j : Int) = 0 := within_some hD.good.calm.up (by omega) (by omega)
            have hrd : Dk.read D (j : Int) = (sect D j, 0) := by unfold Dk.read; rw [if_neg (by rw [hw0]; simp), Int.toNat_natCast]
            have hra := read_any HLO.out.at_.disk (j : Int)
            rw [hrd] at hra
            have hsc := bytes_sect hD hb40 j hj40
            rw [← HS.out] at hsc
            obtain ⟨tt, htt⟩ : ∃ x : ByteArray, x = ⟨(sect D j).toArray⟩ := ⟨_, rfl⟩
            rw [← htt] at hra
            rw [hsc] at htt
            obtain ⟨zz, hzz, hzzs⟩ := zeros_text 64
            have HZZ := Lib.hid hzz
            have HRA := Lib.hid hra
            have HTT := Lib.hid htt
            clear hD hlen hw0 hrd hra hsc htt hzz
            go_wp2_with fail
            refine HRA.out.mono ?_
            rintro e w7 ⟨rfl, hb7⟩
            have H7 := Lib.hid (HLO.out.below hb7)
            clear hb7
            by_cases haj : a ≤ j
            · by_cases hjb : j < b2
              · have hse := fun w => sector19 S (j - a) (by omega) (by omega) w
                have htt2 := HTT.out
                rw [if_pos ⟨haj, hjb⟩] at htt2
                rw [← htt2] at hse
                have hja : (j : Int) - (a : Int) = ((j - a : Nat) : Int) := by omega
                have HSE := Lib.hid hse
                clear hse htt2
                go_wp2_with (first
                  | (refine wpList_make_bytes rfl _ _ 34 5 rfl Tryd.underlying34 u8_info 64 _ (by omega) rfl rfl (by omega) ?_)
                  | (refine wpList_conv_new rfl 34 9 5 _ rfl Tryd.underlying34 Tryd.underlying5 Tryd.underlying9 w7 (zeros 64) 5 rfl _ _ _ rfl (zeros_length _).symm rfl zz HZZ.out ?_)
                  | fail)
                refine (HSE.out _).mono ?_
                rintro e w8 ⟨rfl, hb8⟩
                have H8 := Lib.hid ((H7.out.alloc _).below hb8)
                clear hb8
                go_wp2
                exact ⟨⟨j + 1, rfl, by omega, H8.out⟩, by simp [intOf]; omega⟩
              · have htt2 := HTT.out
                rw [if_neg (by omega), ← HZZ.out] at htt2
                subst htt2
                go_wp2_with (first
                  | (refine wpList_make_bytes rfl _ _ 34 5 rfl Tryd.underlying34 u8_info 64 _ (by omega) rfl rfl (by omega) ?_)
                  | (refine wpList_conv_new rfl 34 9 5 _ rfl Tryd.underlying34 Tryd.underlying5 Tryd.underlying9 w7 (zeros 64) 5 rfl _ _ _ rfl (zeros_length _).symm rfl tt HZZ.out ?_))
                exact ⟨⟨j + 1, rfl, by omega, H7.out.alloc _⟩, by simp [intOf]; omega⟩
            · have htt2 := HTT.out
              rw [if_neg (by omega), ← HZZ.out] at htt2
              subst htt2
              go_wp2_with (first
                | (refine wpList_make_bytes rfl _ _ 34 5 rfl Tryd.underlying34 u8_info 64 _ (by omega) rfl rfl (by omega) ?_)
                | (refine wpList_conv_new rfl 34 9 5 _ rfl Tryd.underlying34 Tryd.underlying5 Tryd.underlying9 w7 (zeros 64) 5 rfl _ _ _ rfl (zeros_length _).symm rfl tt HZZ.out ?_))
              exact ⟨⟨j + 1, rfl, by omega, H7.out.alloc _⟩, by simp [intOf]; omega⟩
          · obtain rfl : j = 40 := by omega
            have hD := HAT.out.op
            have hmany := hD.good.many
            have hen := hD.good.en
            have hln := len_log HLO.out.log (by rw [hmany]; have := HAT.out.few; omega)
            rw [hmany] at hln
            have HLN := Lib.hid hln
            have hrmm := room_any HLO.out.log _ hD.good.sane
            have hroom : L.room = 64 * ((b2 : Int) - (a : Int)) - (szs hv : Int) := by unfold LS.room; rw [hD.efr, hD.eto, hen]; omega
            rw [hroom] at hrmm
            have HRM := Lib.hid hrmm
            clear hD hmany hen hln hroom hrmm
            go_wp2_with fail
            refine HLN.out.mono ?_
            rintro e w7 ⟨rfl, rfl⟩
            go_wp2_with fail
            refine HRM.out.mono ?_
            rintro e w8 ⟨rfl, hb8⟩
            have H8 := Lib.hid (HLO.out.at_.below hb8)
            have HDI := Lib.hid (H8.out.dirty)
            have hdz : dirty D = [] := HAT.out.op.good.calm.syn.dirty
            have HDZ := Lib.hid hdz
            clear hb8 hdz
            go_wp2_with fail
            refine HDI.out.mono ?_
            rintro e w9 ⟨v9, rfl, ho, h9, _⟩
            have H9 := Lib.hid h9
            clear h9
            rw [HDZ.out] at ho
            rcases ho.2 with ⟨rfl, _⟩ | ⟨g9, c9, u9, rfl, _⟩
            · go_wp2
              go_ret
              exact ⟨rfl, H9.out.bel⟩
            · go_wp2
              go_ret
              exact ⟨rfl, H9.out.bel⟩

set_option maxRecDepth 100000 in
set_option maxHeartbeats 4000000 in
theorem bytes_far (va vb : Value) (f sz ep : Int) (l m : List Bs) (W : World) (RA : RowT W va l) (RB : RowT W vb m) (hl : 100 < l.length ∨ 100 < m.length) (hf : 0 ≤ f ∧ f < 256) (hsz : 0 ≤ sz ∧ sz < 256) :
    Calls Tryd.prog 8 #[.int .u8 f, .int .u8 sz, .int .u64 ep, va, vb] W fun e w' => e = .returned (.bool true) ∧ Below W.heap.size W w' := by
  obtain ⟨f, rfl⟩ := Int.eq_ofNat_of_zero_le hf.1
  obtain ⟨sz, rfl⟩ := Int.eq_ofNat_of_zero_le hsz.1
  obtain ⟨a, ha⟩ : ∃ a : Nat, a = f % 20 := ⟨_, rfl⟩
  obtain ⟨c, hc⟩ : ∃ c : Nat, c = sz % 20 := ⟨_, rfl⟩
  obtain ⟨b2, hb2⟩ : ∃ b2 : Nat, b2 = a + 1 + c := ⟨_, rfl⟩
  have ha20 : a < 20 := by omega
  have hc20 : c < 20 := by omega
  have a1 : (f : Int) % 20 = (a : Int) := by omega
  have a2 : (f : Int).tmod 20 = (a : Int) := by rw [Int.tmod_eq_emod_of_nonneg (by omega)]; omega
  have c1 : (sz : Int) % 20 = (c : Int) := by omega
  have c2 : (sz : Int).tmod 20 = (c : Int) := by rw [Int.tmod_eq_emod_of_nonneg (by omega)]; omega
  have b1 : (a : Int) + 1 + (c : Int) = (b2 : Int) := by omega
  obtain ⟨aA, cA, rfl⟩ := RA.len
  obtain ⟨aB, cB, rfl⟩ := RB.len
  have HSH := Lib.hid (fun w => shown19 w)
  clear RA RB ha hc hb2
  by_cases h1 : 100 < l.length
  · have h2 : decide (100 < l.length) = true := decide_eq_true h1
    clear hl
    go_enter Tryd.func8, Tryd.ntmps8
    go_wp2_with fail
    refine (made 40 (by decide) (by decide) W W (Below.refl _ _)).mono ?_
    rintro e w1 ⟨b, g, bm, rfl, h1, _⟩
    have H1 := Lib.hid h1
    clear h1
    go_wp2_with (go_at_call 12; refine (HSH.out _).mono ?_; rintro e w1' ⟨rfl, hb⟩)
    go_ret
    exact ⟨rfl, (H1.out.below hb).bel⟩
  · have h3 : 100 < m.length := by omega
    have h2 : decide (100 < l.length) = false := decide_eq_false h1
    have h4 : decide (100 < m.length) = true := decide_eq_true h3
    clear hl
    go_enter Tryd.func8, Tryd.ntmps8
    go_wp2_with fail
    refine (made 40 (by decide) (by decide) W W (Below.refl _ _)).mono ?_
    rintro e w1 ⟨b, g, bm, rfl, h1, _⟩
    have H1 := Lib.hid h1
    clear h1
    go_wp2_with (go_at_call 12; refine (HSH.out _).mono ?_; rintro e w1' ⟨rfl, hb⟩)
    go_ret
    exact ⟨rfl, (H1.out.below hb).bel⟩

theorem bytes_walk (a1 a2 a3 : Int) (va : Value) (l : List ByteArray) (vb : Value) (m : List ByteArray) (W : World) (w1 : (Lit.int .u8 a1).wf = true) (w2 : (Lit.int .u8 a2).wf = true) (w3 : (Lit.int .u64 a3).wf = true) (RA : Rd.Reads W (.sl .str) [va] l) (RB : Rd.Reads W (.sl .str) [vb] m) :
    Calls Tryd.prog 8 #[.int .u8 a1, .int .u8 a2, .int .u64 a3, va, vb] W fun e w' => e = .returned (.bool true) ∧ Below W.heap.size W w' := by
  obtain ⟨h1, h2⟩ := Rd.row_strs RA
  obtain ⟨k1, k2⟩ := Rd.row_strs RB
  have hr : RowT W va (l.map fun s => s.data.toList) := row_map h1
  have hk : RowT W vb (m.map fun s => s.data.toList) := row_map k1
  obtain ⟨b0, b1⟩ := bounds_u8 w1
  obtain ⟨c0, c1⟩ := bounds_u8 w2
  obtain ⟨d0, d1⟩ := bounds_u64 w3
  by_cases hl : 100 < l.length ∨ 100 < m.length
  · exact bytes_far va vb a1 a2 a3 _ _ W hr hk (by rw [List.length_map, List.length_map]; exact hl) ⟨by omega, by omega⟩ ⟨by omega, by omega⟩
  · obtain ⟨f, rfl⟩ := Int.eq_ofNat_of_zero_le b0
    obtain ⟨sz, rfl⟩ := Int.eq_ofNat_of_zero_le c0
    obtain ⟨ep, rfl⟩ := Int.eq_ofNat_of_zero_le d0
    exact bytes_near va vb f sz ep _ _ W hr hk (by rw [List.length_map]; omega) (by rw [List.length_map]; omega) (small_map h2) (small_map k2) (by omega) (by omega) (by omega)
end Go.Proofs.YtoafebndlldclaaDoor.Wl
