/- The document's Parse, and the walk of DigitParses. -/
import Derived.Test.YtgdlkpfkaehebaaGreatDoorRz
set_option linter.unusedVariables false
set_option linter.unusedSimpArgs false
namespace Go.Proofs.YtgdlkpfkaehebaaGreatDoor.Ry
open Go Go.RowKit Go.Proofs.YtgdlkpfkaehebaaGreatDoorW.PrintWords Go.Proofs.YtgdlkpfkaehebaaGreatDoorW.PrintLast Go.Proofs.YtgdlkpfkaehebaaGreatDoorW.PrintMore
open Nt Lm Bs Pr Ra Do Fr Pz Dp Dq Rm Rn Ro Rz

def anyL (t : Bs) : List Nat := if okS t = true then parseL t else []
theorem bad_any {t : Bs} (h : okS t = false) : anyE t = 40 ∧ anyL t = [] := by unfold anyE anyL; rw [h]; exact ⟨rfl, rfl⟩
def revD (t : Bs) : List Nat := t.reverse.map fun c => c.toNat - 48
theorem revD_snoc (t : Bs) (c : UInt8) : revD (t ++ [c]) = (c.toNat - 48) :: revD t := by simp [revD]
theorem revD_cons (t : Bs) (c : UInt8) : revD (c :: t) = revD t ++ [c.toNat - 48] := by simp [revD]
theorem unb_revD (t : Bs) : unb 10 (revD t) = decV t := by
  refine snoc_ind (P := fun t => unb 10 (revD t) = decV t) rfl ?_ t
  intro s c ih
  rw [revD_snoc, decV_append]
  simp only [unb, ih, List.length_singleton, Nat.pow_one]
  have : decV [c] = c.toNat - 48 := by simp [decV, decF]
  rw [this]
  omega
theorem revD_lt {t : Bs} (h : t.all isDig = true) : ∀ d ∈ revD t, d < 10 := by
  intro d hd
  simp only [revD, List.mem_map, List.mem_reverse] at hd
  obtain ⟨c, hc, rfl⟩ := hd
  have := List.all_eq_true.1 h c hc
  simp [isDig] at this
  omega
theorem ok_any {t : Bs} (h : okS t = true) (hl : t.length ≤ 200) : anyE t = fromE 10 (revD t) ∧ anyL t = fromL 10 (revD t) := by
  have hd : t.all isDig = true := by
    unfold okS at h
    simp at h
    simpa using h.1.2
  obtain ⟨h1, _⟩ := chunks_spec _ t rfl hd
  have h2 := unb_revD t
  have e1 : anyE t = fromE 10000000000 (chunks t) := by unfold anyE parseE; rw [if_pos h, if_neg (by rw [h]; simp), if_neg (by omega)]
  have e2 : anyL t = fromL 10000000000 (chunks t) := by unfold anyL parseL; rw [if_pos h, if_neg (by rw [h]; simp), if_neg (by omega)]
  rw [e1, e2]
  unfold fromE fromL
  rw [h1, h2]
  exact ⟨rfl, rfl⟩
theorem big_any {t : Bs} (h : okS t = true) (hl : 200 < t.length) : anyE t = 21 ∧ anyL t = [] := by
  have e1 : anyE t = 21 := by unfold anyE parseE; rw [if_pos h, if_neg (by rw [h]; simp), if_pos hl]
  have e2 : anyL t = [] := by unfold anyL parseL; rw [if_pos h, if_neg (by rw [h]; simp), if_pos hl]
  exact ⟨e1, e2⟩
theorem dig_of {t : Bs} (h : okS t = true) : t.all isDig = true := by
  unfold okS at h
  simp at h
  simpa using h.1.2
theorem ok_head {t : Bs} (h : okS t = true) : t ≠ [] ∧ (t.length > 1 → t.head? ≠ some 48) := by
  unfold okS at h
  simp at h
  refine ⟨h.1.1, fun h1 => ?_⟩
  have := h.2
  intro e
  simp [e] at this
  omega
theorem zero_any {t : Bs} (h : anyE t = 0) : ∃ v, v < B8 ∧ anyL t = ofN v ∧ text v = t := by
  by_cases hok : okS t = true
  · by_cases hl : t.length ≤ 200
    · obtain ⟨e1, e2⟩ := ok_any hok hl
      rw [e1] at h
      have hb : decV t < B8 := by
        unfold fromE at h
        rw [unb_revD] at h
        by_cases hb : decV t < B8
        · exact hb
        · rw [if_neg hb] at h; cases h
      refine ⟨decV t, hb, ?_, ?_⟩
      · rw [e2]
        unfold fromL
        rw [unb_revD, if_pos hb]
      · obtain ⟨q1, q2⟩ := ok_head hok
        exact text_back (dig_of hok) q1 q2
    · rw [(big_any hok (by omega)).1] at h
      cases h
  · rw [(bad_any (by simpa using hok)).1] at h
    cases h
theorem ba_back (s : ByteArray) : ba s.data.toList = s := by cases s; simp [ba]
/-- byte i -/
def bt (t : Bs) (i : Nat) : Nat := (t.getD i 0).toNat
theorem bt_at (s : ByteArray) (i : Nat) (h : i < s.size) : ((s[i]'h).toNat : Int) = (bt s.data.toList i : Int) := by
  have h2 : i < s.data.toList.length := by rw [Array.length_toList]; exact h
  have e : s.data.toList.getD i 0 = s[i]'h := by
    rw [List.getD_eq_getElem?_getD, List.getElem?_eq_getElem h2]; rfl
  unfold bt
  rw [e]
theorem bt_bad {t : Bs} {i : Nat} (h : i < t.length) (hb : bt t i < 48 ∨ 57 < bt t i) : okS t = false := by
  have e : t.getD i 0 = t[i] := by rw [List.getD_eq_getElem?_getD, List.getElem?_eq_getElem h]; rfl
  unfold bt at hb
  rw [e] at hb
  unfold okS
  have : t.all isDig = false := by
    rw [← Bool.not_eq_true]
    intro ha
    have := List.all_eq_true.1 ha _ (List.getElem_mem h)
    simp [isDig] at this
    omega
  rw [this]
  simp
theorem bt_all {t : Bs} (h : ∀ i, i < t.length → 48 ≤ bt t i ∧ bt t i ≤ 57) : t.all isDig = true := by
  rw [List.all_eq_true]
  intro c hc
  obtain ⟨i, hi, rfl⟩ := List.mem_iff_getElem.1 hc
  have := h i hi
  unfold bt at this
  rw [List.getD_eq_getElem?_getD, List.getElem?_eq_getElem hi] at this
  simp [isDig]
  exact this
theorem bt_drop {t : Bs} {i : Nat} (h : i < t.length) : revD (t.drop i) = revD (t.drop (i + 1)) ++ [bt t i - 48] := by
  rw [List.drop_eq_getElem_cons h, revD_cons]
  unfold bt
  rw [List.getD_eq_getElem?_getD, List.getElem?_eq_getElem h]
  rfl
theorem zero_bad {t : Bs} (h : 1 < t.length) (hb : bt t 0 = 48) : okS t = false := by
  cases t with
  | nil => simp at h
  | cons c l =>
    have hc : c = 48 := by
      have : c.toNat = 48 := hb
      exact UInt8.toNat_inj.1 (by rw [this]; rfl)
    subst hc
    unfold okS
    have : decide (1 < (48 :: l).length) = true := decide_eq_true h
    rw [this]
    simp
theorem ok_of {t : Bs} (h0 : 0 < t.length) (ha : t.all isDig = true) (h : t.length = 1 ∨ bt t 0 ≠ 48) : okS t = true := by
  unfold okS
  rw [ha]
  have h1 : t.isEmpty = false := by cases t with
    | nil => simp at h0
    | cons c l => rfl
  rw [h1]
  rcases h with h | h
  · simp [h]
  · have : (t.head? == some 48) = false := by
      cases t with
      | nil => rfl
      | cons c l =>
        rw [List.head?_cons, beq_eq_false_iff_ne]
        intro e
        injection e with e
        apply h
        rw [e]
        rfl
    rw [this]
    simp

theorem parse_both (s : ByteArray) (w : World) (hs : s.size ≤ 4611686018427387904) :
    Calls Tryz.prog 5 #[.string s] w fun e w' => ∃ v, e = .returned (.tuple #[v, .int .i64 (anyE s.data.toList)]) ∧ Nw w' w.heap.size v (anyL s.data.toList) ∧ Below w.heap.size w w' := by
  by_cases h : okS s.data.toList = true
  · have e1 : anyE s.data.toList = parseE s.data.toList := if_pos h
    have e2 : anyL s.data.toList = parseL s.data.toList := if_pos h
    rw [e1, e2]
    exact parse_ok s w hs h
  · obtain ⟨e1, e2⟩ := bad_any (t := s.data.toList) (by simpa using h)
    rw [e1, e2]
    exact (parse_bad s w hs (by simpa using h)).mono fun e w' ⟨h1, h3⟩ => ⟨_, h1, Nw.nil _ _, h3⟩

set_option maxHeartbeats 8000000 in
set_option maxRecDepth 100000 in
theorem parse4_call (s : ByteArray) (w : World) (hs : s.size ≤ 300) :
    Calls Tryz.prog 6 #[.string s] w fun e w' => ∃ v, e = .returned (.tuple #[v, .int .i64 (anyE s.data.toList)]) ∧ Nw w' w.heap.size v (anyL s.data.toList) ∧ Below w.heap.size w w' := by
  have hsz : s.size = s.data.toList.length := by rw [Array.length_toList]; rfl
  have hbt := bt_at s
  obtain ⟨S, hS⟩ : ∃ S, S = s.data.toList := ⟨_, rfl⟩
  rw [← hS] at hsz hbt ⊢
  obtain ⟨ae, hae⟩ : ∃ e, e = anyE S := ⟨_, rfl⟩
  obtain ⟨al, hal⟩ : ∃ e, e = anyL S := ⟨_, rfl⟩
  rw [← hae, ← hal]
  have HBAD := Lib.hid (show okS S = false → ae = 40 ∧ al = [] from fun h => by rw [hae, hal]; exact bad_any h)
  have HBT := Lib.hid hbt
  have HSZ := Lib.hid hsz
  have HBIG := Lib.hid (show okS S = true → 200 < S.length → ae = 21 ∧ al = [] from fun h h2 => by rw [hae, hal]; exact big_any h h2)
  have HOK := Lib.hid (show okS S = true → S.length ≤ 200 → ae = fromE 10 (revD S) ∧ al = fromL 10 (revD S) from fun h h2 => by rw [hae, hal]; exact ok_any h h2)
  have hw0 : IntKind.i64.wrap ((s.size : Int) - 1) = (s.size : Int) - 1 := IntWalk.i64_in _ (by omega)
  have HW0 := Lib.hid hw0
  clear hae hal hbt hS hsz hw0
  by_cases h0 : s.size = 0
  · obtain ⟨rfl, rfl⟩ := HBAD.out (by have := HSZ.out; rw [h0] at this; rw [List.eq_nil_of_length_eq_zero this.symm]; rfl)
    go_enter Tryz.func6, Tryz.ntmps6
    go_wp2_with fail
    go_ret2
    exact ⟨_, rfl, Nw.nil _ _, Below.refl _ _⟩
  · have h0' : ¬ (s.size : Int) = 0 := by omega
    by_cases hb : 1 < s.size ∧ bt S 0 = 48
    · obtain ⟨hs1, hb0⟩ := hb
      obtain ⟨rfl, rfl⟩ := HBAD.out (zero_bad (by have := HSZ.out; omega) hb0)
      have hc : ∀ h : 0 < s.size, ((((s[0]'h).toNat : Int) == 48) = true) := fun h => by rw [HBT.out 0 h, hb0]; rfl
      go_enter Tryz.func6, Tryz.ntmps6
      go_wp2_with fail
      go_ret2
      exact ⟨_, rfl, Nw.nil _ _, Below.refl _ _⟩
    · have hpre : (1 < s.size ∧ (∀ h : 0 < s.size, ((((s[0]'h).toNat : Int) == 48) = false))) ∨ ¬ 1 < s.size := by
        by_cases h : 1 < s.size
        · exact .inl ⟨h, fun h2 => by rw [HBT.out 0 h2]; exact beq_eq_false_iff_ne.mpr (fun e => hb ⟨h, by omega⟩)⟩
        · exact .inr h
      have HDG := Lib.hid (show (∀ i, i < S.length → 48 ≤ bt S i ∧ bt S i ≤ 57) → okS S = true from fun h => ok_of (by have := HSZ.out; omega) (bt_all h) (by
        have := HSZ.out
        by_cases h1 : S.length = 1
        · exact .inl h1
        · exact .inr (fun e => hb ⟨by omega, e⟩)))
      clear hb
      rcases hpre with ⟨hs1, hc⟩ | hs1
      all_goals
        go_enter Tryz.func6, Tryz.ntmps6
        go_wp2_with fail
        try clear hc
        go_loop [4] (fun v => ∃ i : Nat, i ≤ s.size ∧ v = .int .i64 (i : Int) ∧ Hid (∀ j, j < i → 48 ≤ bt S j ∧ bt S j ≤ 57)) (fun v => s.size - (intOf v).toNat)
        case atStart => exact ⟨0, by omega, rfl, Lib.hid (fun j h => absurd h (by omega))⟩
        case round =>
          obtain ⟨i, hi, rfl, hq⟩ := hrel
          by_cases his : i < s.size
          · have his' : (i : Int) < (s.size : Int) := by omega
            have hby : ∀ h : i < s.size, ((s[i]'h).toNat : Int) = (bt S i : Int) := HBT.out i
            have HBD := Lib.hid (show bt S i < 48 ∨ 57 < bt S i → ae = 40 ∧ al = [] from fun h => HBAD.out (bt_bad (by have := HSZ.out; omega) h))
            have HST := Lib.hid (show 48 ≤ bt S i ∧ bt S i ≤ 57 → ∀ j, j < i + 1 → 48 ≤ bt S j ∧ bt S j ≤ 57 from fun h j hj => by
              by_cases e : j = i
              · rw [e]; exact h
              · exact hq.out j (by omega))
            obtain ⟨b, hbb⟩ : ∃ b, b = bt S i := ⟨_, rfl⟩
            rw [← hbb] at hby HBD HST
            clear hbb hq
            by_cases k1 : b < 48
            · have k1' : (b : Int) < 48 := by omega
              obtain ⟨rfl, rfl⟩ := HBD.out (.inl k1)
              go_wp2_with fail
              go_ret2
              exact ⟨_, rfl, Nw.nil _ _, Below.refl _ _⟩
            · have k1' : ¬ (b : Int) < 48 := by omega
              by_cases k2 : 57 < b
              · have k2' : (57 : Int) < (b : Int) := by omega
                obtain ⟨rfl, rfl⟩ := HBD.out (.inr k2)
                go_wp2_with fail
                go_ret2
                exact ⟨_, rfl, Nw.nil _ _, Below.refl _ _⟩
              · have k2' : ¬ (57 : Int) < (b : Int) := by omega
                have HNX := Lib.hid (HST.out ⟨by omega, by omega⟩)
                go_wp2_with fail
                go_round
                case rel => exact ⟨i + 1, by omega, by go_num, HNX⟩
                case measure => simp [intOf]; omega
          · have his' : ¬ (i : Int) < (s.size : Int) := by omega
            have hok := HDG.out (fun j hj => hq.out j (by have := HSZ.out; omega))
            obtain ⟨z, hz⟩ : ∃ z, z = i := ⟨_, rfl⟩
            have hzs : i = s.size := by omega
            clear hq
            by_cases h2 : 200 < s.size
            · have h2' : (200 : Int) < (s.size : Int) := by omega
              obtain ⟨rfl, rfl⟩ := HBIG.out hok (by have := HSZ.out; omega)
              clear hok hzs hz
              go_wp2_with fail
              go_ret2
              exact ⟨_, rfl, Nw.nil _ _, Below.refl _ _⟩
            · have h2' : ¬ (200 : Int) < (s.size : Int) := by omega
              obtain ⟨q1, q2⟩ := HOK.out hok (by have := HSZ.out; omega)
              have HLT := Lib.hid (show ∀ d ∈ revD S, d < 10 from revD_lt (bt_all (fun j hj => by
                have h9 := hok
                have hd : S.all isDig = true := by
                  unfold okS at h9
                  simp at h9
                  simpa using h9.1.2
                have h8 := List.all_eq_true.1 hd _ (List.getElem_mem hj)
                unfold bt
                rw [List.getD_eq_getElem?_getD, List.getElem?_eq_getElem hj]
                simpa [isDig] using h8)))
              have HDALL := Lib.hid (show ∀ j, j < S.length → 48 ≤ bt S j ∧ bt S j ≤ 57 from fun j hj => by
                have h9 := hok
                have hd : S.all isDig = true := by
                  unfold okS at h9
                  simp at h9
                  simpa using h9.1.2
                have h8 := List.all_eq_true.1 hd _ (List.getElem_mem hj)
                unfold bt
                rw [List.getD_eq_getElem?_getD, List.getElem?_eq_getElem hj]
                simpa [isDig] using h8)
              have hw0 := HW0.out
              have Q1 := Lib.hid q1
              have Q2 := Lib.hid q2
              clear hok hzs hz q1 q2
              go_wp2_with fail
              go_loopw [5, 6] (fun u v wr => ∃ (j : Nat) (iv : Int), v = .int .i64 iv ∧ iv + 1 = (j : Int) ∧ j ≤ s.size ∧ Hid (Nw wr w.heap.size u (revD (S.drop j))) ∧ Hid (Below w.heap.size w wr)) (fun _ v _ => ((intOf v) + 1).toNat)
              case atStart => exact ⟨s.size, (s.size : Int) - 1, by first | rfl | (rw [hw0]), by omega, by omega, Lib.hid (by rw [List.drop_eq_nil_of_le (by have := HSZ.out; omega)]; exact Nw.lit0 _ _ (Nat.le_refl _)), Lib.hid (below_alloc (Below.refl _ _) _)⟩
              case round =>
                clear hw0
                obtain ⟨j, iv, rfl, hiv, hj, hv, hB⟩ := hrel
                obtain ⟨A5, c5, e5, hc5, hr5⟩ := hv.out.open
                subst e5
                have hrl : (revD (S.drop j)).length ≤ 300 := by
                  simp only [revD, List.length_map, List.length_reverse, List.length_drop]
                  have := HSZ.out
                  omega
                rcases j with _ | k
                · obtain rfl : iv = -1 := by omega
                  have hf := from4_call A5 c5 (revD (S.drop 0)) _ hr5 hrl (by rw [List.drop_zero]; exact HLT.out)
                  rw [List.drop_zero, ← Q1.out, ← Q2.out] at hf
                  have HF := Lib.hid hf
                  have e9 : (revD (S.drop 0)).length = (revD S).length := by rw [List.drop_zero]
                  rw [e9] at *
                  clear hf hr5 hrl e9
                  go_wp2_with fail
                  refine (HF.out).mono ?_
                  rintro e w3 ⟨v, rfl, hv3, hb3⟩
                  have HV := Lib.hid (hv3.lower hB.out.size)
                  have HB3 := Lib.hid (hB.out.trans (hb3.mono hB.out.size))
                  clear hv3 hb3
                  go_wp2_with fail
                  go_ret2
                  exact ⟨_, rfl, HV.out, HB3.out⟩
                · obtain rfl : iv = (k : Int) := by omega
                  have hks : k < S.length := by have := HSZ.out; omega
                  have hby : ∀ h : k < s.size, ((s[k]'h).toNat : Int) = (bt S k : Int) := HBT.out k
                  have hdr := bt_drop hks
                  obtain ⟨d1, d2⟩ := HDALL.out k hks
                  obtain ⟨b, hbb⟩ : ∃ b, b = bt S k := ⟨_, rfl⟩
                  rw [← hbb] at hby hdr d1 d2
                  obtain ⟨d, hd⟩ : ∃ d, d = b - 48 := ⟨_, rfl⟩
                  rw [← hd] at hdr
                  have f1 : (b : Int) - 48 = (d : Int) := by omega
                  have f2 : IntKind.u8.wrap (d : Int) = (d : Int) := IntWalk.u8_in _ (by omega)
                  have f3 : IntKind.u64.wrap (d : Int) = (d : Int) := IntWalk.u64_in _ (by omega)
                  have hk0 : (0 : Int) ≤ (k : Int) := by omega
                  have hks' : (k : Int) < (s.size : Int) := by omega
                  obtain ⟨xl, hxl⟩ : ∃ x, x = revD (S.drop (k + 1)) := ⟨_, rfl⟩
                  rw [← hxl] at hv hr5 hrl hdr hc5 ⊢
                  have HDR := Lib.hid hdr
                  have HXL := Lib.hid hxl
                  clear hdr hr5 hxl hbb hd
                  go_wp2_with (at_builtin; refine app_n (w0 := w) w.heap.size rfl _ _ rfl (.slice A5 xl.length c5) xl [d] (some ⟨wr.heap.size, 0, none⟩) 1 rfl rfl (hv.out.below (below_alloc (Below.refl _ _) _)) (Rw.one wr d) (hB.out.alloc hB.out.size _) (by have := hB.out.size; simp; omega) (by simp; omega) ?_; intro vv w3 hv1 hb1 hg1 hat1; have HV4 := Lib.hid hv1; have HB4 := Lib.hid hb1; clear hv1 hb1 hg1 hat1)
                  go_roundw
                  case rel => exact ⟨k, (k : Int) - 1, by first | rfl | go_num, by omega, by omega, by rw [HDR.out]; exact HV4, HB4⟩
                  case measure => simp [intOf]

set_option maxHeartbeats 4000000 in
set_option maxRecDepth 100000 in
theorem parses_walk (s : ByteArray) (W : World) (hpow : Fu.Pow W) (hs : s.size ≤ 140737488351232) :
    Calls Tryz.prog 3 #[.string s] W fun e W' => e = .returned (.bool true) ∧ Below W.heap.size W W' := by
  by_cases h300 : 300 < s.size
  · have h300' : (300 : Int) < (s.size : Int) := by omega
    have HS := Lib.hid (shown_call W hpow)
    clear hpow hs
    go_enter Tryz.func3, Tryz.ntmps3
    go_wp2_with fail
    refine (HS.out).mono ?_
    rintro e w1 ⟨rfl, hb1⟩
    have HB1 := Lib.hid hb1
    clear hb1
    go_wp2_with fail
    go_ret
    exact ⟨rfl, HB1.out⟩
  · have h300' : ¬ (300 : Int) < (s.size : Int) := by omega
    have HS := Lib.hid (shown_call W hpow)
    have HP := Lib.hid (fun w => parse_both s w (by omega))
    have H4 := Lib.hid (fun w => parse4_call s w (by omega))
    have HZ := Lib.hid (fun h => zero_any (t := s.data.toList) h)
    have HPOW := Lib.hid hpow
    have hbb := ba_back s
    have HBB := Lib.hid hbb
    obtain ⟨E, hE⟩ : ∃ e, e = anyE s.data.toList := ⟨_, rfl⟩
    obtain ⟨L, hL⟩ : ∃ e, e = anyL s.data.toList := ⟨_, rfl⟩
    simp only [← hE, ← hL] at HP H4 HZ
    have hLL : L.length ≤ 1000000 := by
      rw [hL]
      unfold anyL parseL
      split
      · split
        · simp
        · split
          · simp
          · unfold fromL
            split
            · rename_i hb
              exact Nat.le_trans ((ofN_len 8 _).2 hb) (by omega)
            · simp
      · simp
    have HEE := Lib.hid hE
    clear hpow hs hbb hE hL
    go_enter Tryz.func3, Tryz.ntmps3
    go_wp2_with fail
    refine (HS.out).mono ?_
    rintro e w1 ⟨rfl, hb1⟩
    have HB1 := Lib.hid hb1
    clear hb1
    go_wp2_with fail
    refine (HP.out w1).mono ?_
    rintro e w2 ⟨v, rfl, hv2, hb2⟩
    obtain ⟨A1, c1, rfl, hc1, hr1⟩ := hv2.open
    have HR1 := Lib.hid hr1
    have HB2 := Lib.hid (HB1.out.trans (hb2.mono HB1.out.size))
    clear hv2 hr1 hb2
    go_wp2_with fail
    refine (H4.out w2).mono ?_
    rintro e w3 ⟨v, rfl, hv3, hb3⟩
    obtain ⟨A2, c2, rfl, hc2, hr2⟩ := hv3.open
    have HR13 := Lib.hid (HR1.out.below hb3)
    have HSAME := Lib.hid (same_call A1 A2 c1 c2 L L w3 HR13.out hr2 hLL hLL)
    rw [decide_eq_true rfl] at HSAME
    have HB3 := Lib.hid (HB2.out.trans (hb3.mono HB2.out.size))
    clear hv3 hr2 hb3
    go_wp2_with fail
    refine (HSAME.out).mono ?_
    rintro e w4 ⟨rfl, hb4⟩
    have HR14 := Lib.hid (HR13.out.below hb4)
    have HB4 := Lib.hid (HB3.out.trans (hb4.mono HB3.out.size))
    clear hb4
    by_cases hz : E = 0
    · obtain ⟨v, hv8, hLv, htv⟩ := HZ.out hz
      have hP := print_call A1 c1 L w4 HR14.out (by rw [hLv]; exact ofN_may hv8) (by rw [hLv]; exact ofN_lim v) hc1 (pow_below HPOW.out HB4.out)
      rw [show ba (text (val L)) = s by rw [hLv, val_ofN, htv, HBB.out]] at hP
      have HPP := Lib.hid hP
      subst hz
      clear hP hLv htv
      go_wp2_with fail
      refine (HPP.out).mono ?_
      rintro e w5 ⟨rfl, hb5⟩
      have HB5 := Lib.hid (HB4.out.trans (hb5.mono HB4.out.size))
      clear hb5
      go_wp2_with fail
      go_ret
      exact ⟨by first | rfl | (simp; done), HB5.out⟩
    · have hzb : (E != 0) = true := bne_iff_ne.mpr hz
      go_wp2_with fail
      go_ret
      exact ⟨by first | rfl | (simp; done), HB4.out⟩
end Go.Proofs.YtgdlkpfkaehebaaGreatDoor.Ry
