/- The call of the law StoreKeeps is proved: it answers true, whatever the disk's size, the first snapshot and the acts. -/
import Derived.Test.YtoafebndlldclaaDoorStoreG
import Derived.Test.YtoafebndlldclaaDoorStoreQ
import Derived.OpenShut
namespace Go.Proofs.YtoafebndlldclaaDoor.St
open Go Go.RowKit Go.Shelf Dk Fr Wl

abbrev ActTy : Rd.Ty := .fld (.int .u8) (.fld .str (.fld (.sl .str) .fin))
/-- one act of the row: its kind, its text, its texts -/
structure ActAt (W : World) (bb o : Nat) (k : Nat) (s : ByteArray) (ta : Option Addr) (tc : Nat) (tl : List Bs) : Prop where
  lt : bb < W.heap.size
  c0 : W.cell? ⟨bb, o, none⟩ = some (.int .u8 k)
  c1 : W.cell? ⟨bb, o + 1, none⟩ = some (.string s)
  c2 : W.cell? ⟨bb, o + 2, none⟩ = some (.slice ta tl.length tc)
  k8 : k < 256
  s63 : s.size ≤ 9223372036854775807
  row : RowT W (.slice ta tl.length tc) tl
  small : ∀ t ∈ tl, t.length ≤ 9223372036854775807

theorem acts_at {W : World} {v : Value} {l : List ActTy.den} (R : Rd.Reads W (.sl ActTy) [v] l) : ∃ a cap, v = .slice a l.length cap ∧ ∀ (j : Nat), j < l.length → ∃ bb off k s ta tc tl, a = some ⟨bb, off, none⟩ ∧ ActAt W bb (off + j * 3) k s ta tc tl := by
  obtain ⟨a, cap, h1, h2, h3, h4⟩ := R
  refine ⟨a, cap, (List.cons.inj h1).1, fun j hj => ?_⟩
  obtain ⟨bb, off, k0, k1, k2⟩ := h4 (by rintro rfl; simp at hj)
  obtain ⟨cs, e1, e2, e3⟩ := k2 j _ (List.getElem?_eq_getElem hj)
  obtain ⟨⟨k, s, ts, u⟩, hx⟩ : ∃ x : ActTy.den, x = l[j] := ⟨_, rfl⟩
  rw [← hx] at e3
  obtain ⟨⟨f1, w1⟩, f2, f3, _⟩ := e3
  obtain ⟨tx, htx⟩ : ∃ tx : List ByteArray, tx = ts := ⟨ts, rfl⟩
  subst htx
  match cs, e1 with
  | [x0, x1, x2], _ =>
    simp only [Rd.Ty.size, List.take_succ_cons, List.take_zero, List.drop_succ_cons, List.drop_zero, List.cons.injEq, and_true] at f1 f2 f3
    subst f1
    obtain ⟨p1, p2⟩ := Rd.row_strs f3
    obtain ⟨va, vc, rfl⟩ := p1.len
    have hr := row_map p1
    have hlen : (tx.map fun s => s.data.toList).length = tx.length := List.length_map ..
    obtain ⟨b0, b1⟩ := bounds_u8 w1
    obtain ⟨k, rfl⟩ := Int.eq_ofNat_of_zero_le b0
    have g2 : x1 = .string s ∧ s.size ≤ maxLen := by simpa [Rd.Reads] using f2
    obtain ⟨rfl, g3⟩ := g2
    refine ⟨bb, off, k, s, va, vc, tx.map fun s => s.data.toList, k0, k1, e2 0 _ rfl, e2 1 _ rfl, ?_, by omega, by unfold maxLen at g3; omega, by rw [hlen]; exact hr, small_map p2⟩
    rw [hlen]
    exact e2 2 _ rfl

theorem StoreOn.grown {W w w' : World} {b g bm sb lb : Nat} {D : DS} {S : SS} {row : Option Nat} (h : StoreOn W w b g bm sb lb D S) (hg : w.grownBy w' row) (hr : ∀ k, row = some k → W.heap.size ≤ k ∧ ¬ FootS b g bm lb sb k) : StoreOn W w' b g bm sb lb D S :=
  ⟨h.log.grown hg (fun k e => ⟨(hr k e).1, fun hf => (hr k e).2 (.inl hf)⟩), (hg.block sb h.st.lt (fun e => (hr sb e.symm).2 (.inr rfl))).trans h.st, h.hsb, h.nf⟩
theorem StoreOn.notText {W w : World} {b g bm sb lb : Nat} {D : DS} {S : SS} (h : StoreOn W w b g bm sb lb D S) {k : Nat} (hk : ∃ cs f, w.heap[k]? = some (.cells cs 9 f)) : ¬ FootS b g bm lb sb k := by
  rintro (hf | rfl)
  · exact h.log.notText hk hf
  · obtain ⟨cs, f, hk⟩ := hk
    have := h.st.symm.trans hk
    simp only [Option.some.injEq, Obj.cells.injEq] at this
    exact absurd this.2.1 (by decide)

/-- what a round keeps -/
structure KeepAt (W : World) (b g bm n q : Nat) (sv hvv snapv epv : Value) (wr : World) : Prop where
  ex : ∃ sb lb D S snap hv, sv = .pointer (some ⟨sb, 0, none⟩) ∧ snapv = .string ⟨snap.toArray⟩ ∧ epv = .int .u64 S.ep ∧ StoreOn W wr b g bm sb lb D S ∧ GoodS D S snap hv ∧ S.ep ≤ q ∧ D.olds.length = n ∧ Texts wr W.heap.size hvv hv ∧ snap.length ≤ 120 ∧ hv.length ≤ 6 * q

theorem KeepAt.below {W w' wr : World} {b g bm n q : Nat} {sv hvv snapv epv : Value} (h : KeepAt W b g bm n q sv hvv snapv epv wr) (hb : Below wr.heap.size wr w') : KeepAt W b g bm n q sv hvv snapv epv w' := by
  obtain ⟨sb, lb, D, S, snap, hv, h1, h2, h3, h4, h5, h6, h7, h8, h9, h10⟩ := h.ex
  exact ⟨sb, lb, D, S, snap, hv, h1, h2, h3, h4.below hb, h5, h6, h7, h8.below hb (Nat.le_refl _), h9, h10⟩

set_option maxRecDepth 100000 in
set_option maxHeartbeats 8000000 in
theorem keeps_near (c : Nat) (s : ByteArray) (v : Value) (l : List ActTy.den) (n : Nat) (hc : c < 256) (hn : n = 1 + c % 80) (W : World) (R : Rd.Reads W (.sl ActTy) [v] l) (hl : l.length ≤ 30) (hs : s.size ≤ 9223372036854775807) (h8 : 8 ≤ n) (hfit : (s.data.toList.take 120).length + 24 ≤ 64 * slotN n) :
    Calls Tryd.prog 6 #[.int .u8 c, .string s, v] W fun e w' => e = .returned (.bool true) ∧ Below W.heap.size W w' := by
  have a1 : 1 + (c : Int) % 80 = (n : Int) := by omega
  have a2 : 1 + (c : Int).tmod 80 = (n : Int) := by rw [Int.tmod_eq_emod_of_nonneg (by omega)]; omega
  have hn80 : n ≤ 80 := by omega
  obtain ⟨aA, cA, rfl, hacts⟩ := acts_at R
  obtain ⟨t, ht⟩ : ∃ t, t = s.data.toList.take 120 := ⟨_, rfl⟩
  have ht120 : t.length ≤ 120 := by rw [ht, List.length_take]; omega
  have hsh := fun w => short_call s hs w
  rw [← ht] at hsh hfit
  obtain ⟨D1, S1, r1, g1, e1, l1⟩ := format_ok h8 (show n ≤ 4096 by omega) (text := t) (by omega) hfit
  obtain ⟨tt, htt, hts⟩ : ∃ tt : ByteArray, tt = ⟨t.toArray⟩ ∧ tt.size = t.length := ⟨_, rfl, by show t.toArray.size = _; simp⟩
  have hfi := fun w => fits_call n (by omega) tt (by omega) w
  rw [show decide (tt.size + 24 ≤ 64 * slotN n) = true from decide_eq_true (by omega)] at hfi
  obtain ⟨k, hk⟩ : ∃ k, k = slotN n := ⟨_, rfl⟩
  have hk1 : 1 ≤ k := by omega
  have hk2 : 2 * k ≤ n := by rw [hk]; exact (slot_le n).1
  have hsl := fun w => slot_call n (by omega) w
  have hrs := fun w => refslot_call n (by omega) w
  have hrm := fun w => room20_call n (by omega) w
  rw [← hk] at hsl hrs hrm
  obtain ⟨rm, hrmq⟩ : ∃ rm, rm = 64 * (n - 2 * k) := ⟨_, rfl⟩
  rw [← hrmq] at hrm
  have hrm9 : rm ≤ 5120 := by omega
  have HSH := Lib.hid (fun w => shown20 w)
  have HACTS := Lib.hid hacts
  have HSHORT := Lib.hid hsh
  have HFI := Lib.hid hfi
  have HSL := Lib.hid hsl
  have HRS := Lib.hid hrs
  have HRM := Lib.hid hrm
  have HK := Lib.hid hk
  have HRMQ := Lib.hid hrmq
  have HT := Lib.hid ht120
  have HTT := Lib.hid htt
  have R1 := Lib.hid r1
  have G1 := Lib.hid g1
  have E1 := Lib.hid e1
  have L1 := Lib.hid l1
  clear R hacts hsh hfi hsl hrs hrm r1 g1 e1 l1 hn ht htt hts hk hrmq hfit ht120
  go_enter Tryd.func6, Tryd.ntmps6
  go_wp2_with fail
  refine (HSH.out _).mono ?_
  rintro e w1 ⟨rfl, hb1⟩
  have HB1 := Lib.hid hb1
  clear hb1
  go_wp2_with fail
  refine (made n (by omega) (by omega) W w1 HB1.out).mono ?_
  rintro e w2 ⟨b, g, bm, rfl, h2, _⟩
  have H2 := Lib.hid h2
  clear h2
  go_wp2_with fail
  refine (HSL.out _).mono ?_
  rintro e w3 ⟨rfl, hb3⟩
  have H3 := Lib.hid (H2.out.below hb3)
  clear hb3
  go_wp2_with fail
  refine (HRS.out _).mono ?_
  rintro e w4 ⟨rfl, hb4⟩
  have H4 := Lib.hid (H3.out.below hb4)
  clear hb4
  go_wp2_with fail
  refine (HSHORT.out _).mono ?_
  rintro e w5 ⟨rfl, hb5⟩
  have C1 := Lib.hid (at_format (H4.out.below hb5) t (by have := HT.out; omega) R1.out)
  clear hb5
  go_wp2_with fail
  refine C1.out.mono ?_
  rintro e w6 ⟨sb, lb, rfl, h6, _⟩
  have H6 := Lib.hid h6
  rw [← HTT.out]
  clear C1 h6
  go_wp2_with fail
  refine (HRS.out _).mono ?_
  rintro e w7 ⟨rfl, hb7⟩
  have H7 := Lib.hid (H6.out.below hb7)
  clear hb7
  go_wp2_with fail
  refine (HFI.out _).mono ?_
  rintro e w8 ⟨rfl, hb8⟩
  have H8 := Lib.hid (H7.out.below hb8)
  clear hb8
  go_wp2
  rw [HTT.out]
  have HKA : Hid (KeepAt W b g bm n 1 (.pointer (some ⟨sb, 0, none⟩)) (.slice (some ⟨w8.heap.size, 0, none⟩) 0 0) (.string ⟨t.toArray⟩) (.int .u64 1) (w8.alloc (.cells #[] 9))) :=
    Lib.hid ⟨sb, lb, D1, S1, t, [], rfl, rfl, by rw [E1.out]; rfl, H8.out.alloc _, G1.out, by rw [E1.out]; omega, L1.out, World.ownsRow.mono (texts_empty w8) H8.out.bel.size, HT.out, by simp⟩
  go_loopw [9, 10, 12, 13, 14, 15, 16, 17, 18, 19, 20, 21, 22, 23] (fun sn st hv ep i _ _ _ _ _ _ _ _ _ wr => ∃ j : Nat, i = .int .i64 j ∧ j ≤ l.length ∧ KeepAt W b g bm n (j + 1) st hv sn ep wr) (fun _ _ _ _ i _ _ _ _ _ _ _ _ _ _ => l.length - (intOf i).toNat)
  case atStart => exact ⟨0, rfl, Nat.zero_le _, HKA.out⟩
  case round =>
    obtain ⟨j, rfl, hj, hka⟩ := hrel
    by_cases hjl : j < l.length
    · obtain ⟨bb, off, kk, sx, ta, tc, tl, rfl, hact⟩ := HACTS.out j hjl
      obtain ⟨sbj, lbj, D, S, snap, hv, rfl, rfl, rfl, hon, hg, hep, hln, htx, hsn, hhv⟩ := hka.ex
      obtain ⟨aH, cH, rfl⟩ := htx.len
      have bel := hon.bel
      have q0 : wr.cell? ⟨bb, off + j * 3, none⟩ = some (.int .u8 kk) := (bel.cell (p := ⟨bb, off + j * 3, none⟩) hact.lt).trans hact.c0
      have q1 : wr.cell? ⟨bb, off + j * 3 + 1, none⟩ = some (.string sx) := (bel.cell (p := ⟨bb, off + j * 3 + 1, none⟩) hact.lt).trans hact.c1
      have q2 : wr.cell? ⟨bb, off + j * 3 + 2, none⟩ = some (.slice ta tl.length tc) := (bel.cell (p := ⟨bb, off + j * 3 + 2, none⟩) hact.lt).trans hact.c2
      have HACT := Lib.hid hact
      have HON := Lib.hid hon
      have HG := Lib.hid hg
      have HEP := Lib.hid hep
      have HLN := Lib.hid hln
      have HTX := Lib.hid htx
      have HSN := Lib.hid hsn
      have HHV := Lib.hid hhv
      clear bel hact hka hon hg hep hln htx hsn hhv
      have hji : (j : Int) < (l.length : Int) := by omega
      have hk8 := HACT.out.k8
      obtain ⟨kd, hkd⟩ : ∃ kd, kd = kk % 5 := ⟨_, rfl⟩
      have hkd5 : kd < 5 := by omega
      have d1 : (kk : Int) % 5 = (kd : Int) := by omega
      have d2 : (kk : Int).tmod 5 = (kd : Int) := by rw [Int.tmod_eq_emod_of_nonneg (by omega)]; omega
      clear hkd
      go_upto_block 2 with fail
      go_cut [9, 10, 12, 13, 15, 16, 17, 18, 19, 20, 21, 22, 23] from 95 to 187 (fun s9 s10 s12 s13 _ _ _ _ _ _ _ _ _ wc => KeepAt W b g bm n (j + 2) s10 s12 s9 s13 wc)
      case first =>
        by_cases hk3 : kd < 3
        · obtain rfl | rfl | rfl : kd = 0 ∨ kd = 1 ∨ kd = 2 := by omega
          all_goals
            have C1 := Lib.hid (shorts_any (HON.out.log.row HACT.out.row) HACT.out.small)
            go_wp2_with fail
            refine C1.out.mono ?_
            rintro e w3 ⟨v3, rfl, tx3, hb3⟩
            obtain ⟨a3, c3, rfl⟩ := tx3.len
            have H3 := Lib.hid (HON.out.below hb3)
            have V3 := Lib.hid (HTX.out.below hb3 (Nat.le_refl _))
            have X3 := Lib.hid tx3
            clear C1 tx3 hb3 q0 q1 q2
            obtain ⟨z1, hz1⟩ : ∃ z1, z1 = szs hv := ⟨_, rfl⟩
            obtain ⟨z2, hz2⟩ : ∃ z2, z2 = szs (shortL tl) := ⟨_, rfl⟩
            have hz1b : z1 ≤ 1000000 := by
              have h1 := HG.out.log.fit
              have h2 := HG.out.log.hi
              have h3 := HG.out.log.calm.ok.hi
              omega
            have hz2b : z2 ≤ 864 := by rw [hz2]; exact szs_short tl
            have HZ1 := Lib.hid hz1
            have HZ2 := Lib.hid hz2
            have hrmx : 64 * (D.olds.length - 2 * slotN D.olds.length) = rm := by rw [HLN.out, ← HK.out, ← HRMQ.out]
            clear hz1 hz2
            by_cases hf : z1 + z2 ≤ rm
            · obtain ⟨D2, S2, r2, g2, e2, l2⟩ := HG.out.append_ok (texts := shortL tl) (fun t ht => by have := short_small tl t ht; omega) (by rw [← HZ1.out, ← HZ2.out, hrmx]; exact hf)
              have C2 := Lib.hid (H3.out.append HG.out.saneL _ _ X3.out.row (by have := short_len tl; omega) r2)
              have G2 := Lib.hid g2
              have E2 := Lib.hid e2
              have L2 := Lib.hid l2
              have hdt : decide ((z1 : Int) + (z2 : Int) ≤ (rm : Int)) = true := decide_eq_true (by omega)
              clear r2 g2 e2 l2 hrmx
              go_wp2_with fail
              refine C2.out.mono ?_
              rintro e w4 ⟨rfl, h4, k4⟩
              have H4 := Lib.hid h4
              have V4 := Lib.hid (V3.out.kp k4 (fun _ _ _ hs => H3.out.notText hs))
              have X4 := Lib.hid (X3.out.kp k4 (fun _ _ _ hs => H3.out.notText hs))
              have c5 := size19 V4.out.row (by have := HZ1.out; omega)
              have c6 := fun w' (hb : Below w4.heap.size w4 w') => size19 ((X4.out.below hb (Nat.le_refl _)).row) (by have := HZ2.out; omega)
              rw [← HZ1.out] at c5
              rw [← HZ2.out] at c6
              have C5 := Lib.hid c5
              have C6 := Lib.hid c6
              clear C2 h4 k4 c5 c6 V3 X3 H3
              go_wp2_with fail
              refine C5.out.mono ?_
              rintro e w5 ⟨rfl, hb5⟩
              have HB5 := Lib.hid hb5
              clear C5 hb5
              go_wp2_with fail
              refine (C6.out _ HB5.out).mono ?_
              rintro e w6 ⟨rfl, hb6⟩
              have HB6 := Lib.hid (HB5.out.trans (hb6.mono HB5.out.size))
              clear C6 hb6 HB5
              go_wp2_with fail
              refine (HRM.out _).mono ?_
              rintro e w7 ⟨rfl, hb7⟩
              have HB7 := Lib.hid (HB6.out.trans (hb7.mono HB6.out.size))
              clear hb7 HB6
              have V7 := Lib.hid (V4.out.below HB7.out (Nat.le_refl _))
              have X7 := Lib.hid (X4.out.below HB7.out (Nat.le_refl _))
              have H7 := Lib.hid (H4.out.below HB7.out)
              have hsl6 := short_len tl
              have hz7 : W.heap.size ≤ w7.heap.size := H7.out.bel.size
              go_wp2_with (refine wpList_append_texts rfl _ _ rfl W.heap.size _ hv rfl V7.out _ _ (shortL tl) rfl X7.out (by have := HHV.out; omega) hz7 ?_; intro v9 w9 t9 g9; have T9 := Lib.hid t9; have G9 := Lib.hid g9; clear t9 g9)
              go_meet
              exact ⟨sbj, lbj, D2, S2, snap, hv ++ shortL tl, rfl, rfl, by rw [E2.out], H7.out.grown G9.out (fun k hk => ⟨(V7.out.own_text hk).1, H7.out.notText (V7.out.own_text hk).2⟩), G2.out, by rw [E2.out]; have := HEP.out; omega, by rw [L2.out]; exact HLN.out, T9.out, HSN.out, by rw [List.length_append]; have := HHV.out; omega⟩
            · have r2 := HG.out.append_full (texts := shortL tl) (fun t ht => by have := short_small tl t ht; omega) (by rw [← HZ1.out, ← HZ2.out, hrmx]; omega)
              have C2 := Lib.hid (H3.out.append HG.out.saneL _ _ X3.out.row (by have := short_len tl; omega) r2)
              have hdt : decide ((z1 : Int) + (z2 : Int) ≤ (rm : Int)) = false := decide_eq_false (by omega)
              clear r2 hrmx
              go_wp2_with fail
              refine C2.out.mono ?_
              rintro e w4 ⟨rfl, h4, k4⟩
              have H4 := Lib.hid h4
              have V4 := Lib.hid (V3.out.kp k4 (fun _ _ _ hs => H3.out.notText hs))
              have X4 := Lib.hid (X3.out.kp k4 (fun _ _ _ hs => H3.out.notText hs))
              have c5 := size19 V4.out.row (by have := HZ1.out; omega)
              have c6 := fun w' (hb : Below w4.heap.size w4 w') => size19 ((X4.out.below hb (Nat.le_refl _)).row) (by have := HZ2.out; omega)
              rw [← HZ1.out] at c5
              rw [← HZ2.out] at c6
              have C5 := Lib.hid c5
              have C6 := Lib.hid c6
              clear C2 h4 k4 c5 c6 V3 X3 H3
              go_wp2_with fail
              refine C5.out.mono ?_
              rintro e w5 ⟨rfl, hb5⟩
              have HB5 := Lib.hid hb5
              clear C5 hb5
              go_wp2_with fail
              refine (C6.out _ HB5.out).mono ?_
              rintro e w6 ⟨rfl, hb6⟩
              have HB6 := Lib.hid (HB5.out.trans (hb6.mono HB5.out.size))
              clear C6 hb6 HB5
              go_wp2_with fail
              refine (HRM.out _).mono ?_
              rintro e w7 ⟨rfl, hb7⟩
              have HB7 := Lib.hid (HB6.out.trans (hb7.mono HB6.out.size))
              clear hb7 HB6
              go_wp2_with fail
              go_meet
              exact ⟨sbj, lbj, D, S, snap, hv, rfl, rfl, rfl, H4.out.below HB7.out, HG.out, by have := HEP.out; omega, HLN.out, V4.out.below HB7.out (Nat.le_refl _), HSN.out, by have := HHV.out; omega⟩
        · by_cases hk4 : kd = 3
          · subst hk4
            obtain ⟨t2, ht2⟩ : ∃ t2, t2 = sx.data.toList.take 120 := ⟨_, rfl⟩
            have ht2l : t2.length ≤ 120 := by rw [ht2, List.length_take]; omega
            have csh := fun w => short_call sx HACT.out.s63 w
            rw [← ht2] at csh
            obtain ⟨tt2, htt2, hts2⟩ : ∃ tt2 : ByteArray, tt2 = ⟨t2.toArray⟩ ∧ tt2.size = t2.length := ⟨_, rfl, by show t2.toArray.size = _; simp⟩
            have CSH := Lib.hid csh
            have HTT2 := Lib.hid htt2
            have hsln : 64 * slotN D.olds.length = 64 * k := by rw [HLN.out, ← HK.out]
            have hepj := HEP.out
            clear csh htt2 ht2
            go_wp2_with fail
            refine (CSH.out _).mono ?_
            rintro e w3 ⟨rfl, hb3⟩
            have H3 := Lib.hid (HON.out.below hb3)
            have V3 := Lib.hid (HTX.out.below hb3 (Nat.le_refl _))
            clear hb3 q0 q1 q2 CSH
            by_cases hf : t2.length + 24 ≤ 64 * k
            · obtain ⟨D3, S3, r3, g3, e3, l3⟩ := HG.out.compact_ok (by omega) (text := t2) (by omega) (by rw [hsln]; exact hf)
              have C2 := Lib.hid (H3.out.compact HG.out.slot HG.out.ep2 t2 (by omega) r3)
              have c3 := fun w => fits_call n (by omega) tt2 (by omega) w
              rw [show decide (tt2.size + 24 ≤ 64 * slotN n) = true from decide_eq_true (by rw [← HK.out]; omega)] at c3
              have C3 := Lib.hid c3
              have G3 := Lib.hid g3
              have E3 := Lib.hid e3
              have L3 := Lib.hid l3
              have u3 : IntKind.u64.wrap ((S.ep : Int) + 1) = (S.ep : Int) + 1 := IntWalk.u64_in _ (by omega)
              clear r3 g3 e3 l3 hsln c3
              go_wp2_with fail
              refine C2.out.mono ?_
              rintro e w4 ⟨rfl, lb4, h4, k4⟩
              have H4 := Lib.hid h4
              rw [← HTT2.out]
              clear C2 h4 k4 V3 H3
              go_wp2_with fail
              refine (C3.out _).mono ?_
              rintro e w5 ⟨rfl, hb5⟩
              have H5 := Lib.hid (H4.out.below hb5)
              clear hb5 C3 H4
              go_wp2_with fail
              go_meet
              rw [HTT2.out]
              exact ⟨sbj, lb4, D3, S3, t2, [], rfl, rfl, by rw [E3.out]; rfl, H5.out, G3.out, by rw [E3.out]; omega, by rw [L3.out]; exact HLN.out, texts_nil _ _, ht2l, by simp⟩
            · have r3 := HG.out.compact_no (text := t2) (put_full (by omega) (by rw [hsln]; omega)) (by decide) (by decide)
              have C2 := Lib.hid (H3.out.compact HG.out.slot HG.out.ep2 t2 (by omega) r3)
              have c3 := fun w => fits_call n (by omega) tt2 (by omega) w
              rw [show decide (tt2.size + 24 ≤ 64 * slotN n) = false from decide_eq_false (by rw [← HK.out]; omega)] at c3
              have C3 := Lib.hid c3
              clear r3 hsln c3
              go_wp2_with fail
              refine C2.out.mono ?_
              rintro e w4 ⟨rfl, lb4, h4, k4⟩
              have H4 := Lib.hid h4
              have V4 := Lib.hid (V3.out.kp k4 (fun _ _ _ hs => H3.out.notText hs))
              rw [← HTT2.out]
              clear C2 h4 k4 V3 H3
              go_wp2_with fail
              refine (C3.out _).mono ?_
              rintro e w5 ⟨rfl, hb5⟩
              have H5 := Lib.hid (H4.out.below hb5)
              have V5 := Lib.hid (V4.out.below hb5 (Nat.le_refl _))
              clear hb5 C3 H4 V4
              go_wp2_with fail
              go_meet
              exact ⟨sbj, lb4, D, S, snap, hv, rfl, rfl, rfl, H5.out, HG.out, by omega, HLN.out, V5.out, HSN.out, by have := HHV.out; omega⟩
          · obtain rfl : kd = 4 := by omega
            obtain ⟨D3, r3, g3, l3⟩ := HG.out.open_same
            have C2 := Lib.hid (at_sopen HON.out.at_ r3)
            have G3 := Lib.hid g3
            have L3 := Lib.hid l3
            clear r3 g3 l3 q0 q1 q2
            go_wp2_with fail
            refine C2.out.mono ?_
            rintro e w4 ⟨sb4, lb4, v4, rfl, h4, t4, k4⟩
            obtain ⟨a4, c4, rfl⟩ := t4.len
            have H4 := Lib.hid h4
            have V4 := Lib.hid (HTX.out.kp k4 (fun _ _ _ hs => at_notText HON.out.at_ hs))
            have c5 := same_call t4.row V4.out.row (by have := HHV.out; omega)
            rw [decide_eq_true (rfl : hv = hv)] at c5
            have C5 := Lib.hid c5
            obtain ⟨ss, hss⟩ : ∃ ss : ByteArray, ss = ⟨snap.toArray⟩ := ⟨_, rfl⟩
            rw [← hss]
            have HSS := Lib.hid hss
            clear C2 h4 k4 t4 c5 hss
            go_wp2_with fail
            refine C5.out.mono ?_
            rintro e w5 ⟨rfl, hb5⟩
            have H5 := Lib.hid (H4.out.below hb5)
            have V5 := Lib.hid (V4.out.below hb5 (Nat.le_refl _))
            clear hb5 C5 H4 V4
            go_wp2_with fail
            go_meet
            rw [HSS.out]
            exact ⟨sb4, lb4, D3, S, snap, hv, rfl, rfl, rfl, H5.out, G3.out, by have := HEP.out; omega, by rw [L3.out]; exact HLN.out, V5.out, HSN.out, by have := HHV.out; omega⟩
      case rest =>
        obtain ⟨sb2, lb2, D2, S2, snap2, hv2, rfl, rfl, rfl, hon2, hg2, hep2, hln2, htx2, hsn2, hhv2⟩ := hcut.ex
        obtain ⟨aV, cV, rfl⟩ := htx2.len
        obtain ⟨z, hz⟩ : ∃ z, z = szs hv2 := ⟨_, rfl⟩
        obtain ⟨ln, hlnq⟩ : ∃ ln, ln = hv2.length := ⟨_, rfl⟩
        have hzb : z ≤ 1000000 := by
          have h1 := hg2.log.fit
          have h2 := hg2.log.hi
          have h3 := hg2.log.calm.ok.hi
          omega
        have hroom : S2.L.room = (rm : Int) - (z : Int) := by rw [hg2.roomL, hln2, ← HK.out, ← HRMQ.out, hz]
        have y0 : wc.cell? ⟨sb2, 0, none⟩ = some (.pointer (some ⟨lb2, 0, none⟩)) := cell_of_row wc sb2 0 _ _ _ hon2.st
        have c1 := hon2.epoch
        have c2 := len_log hon2.log.log (by rw [hg2.log.many]; have := hg2.log.few; omega)
        rw [hg2.log.many, ← hlnq] at c2
        have c3 := room_any hon2.log.log _ hg2.saneL
        rw [hroom] at c3
        have C1 := Lib.hid c1
        have C2 := Lib.hid c2
        have C3 := Lib.hid c3
        have c4 := fun w' (hb : Below wc.heap.size wc w') => size19 ((htx2.below hb (Nat.le_refl _)).row) (by omega)
        rw [← hz, ← hlnq] at c4
        have C4 := Lib.hid c4
        have HON2 := Lib.hid hon2
        have HKA2 := Lib.hid hcut
        have HLQ := Lib.hid hlnq
        rw [← hlnq]
        clear c1 c2 c3 c4 hcut hon2 hg2 htx2 hroom hz hhv2 hlnq
        go_wp2_with fail
        refine C1.out.mono ?_
        rintro e w11 ⟨rfl, rfl⟩
        go_wp2_with fail
        refine C2.out.mono ?_
        rintro e w11 ⟨rfl, rfl⟩
        go_wp2_with fail
        refine C3.out.mono ?_
        rintro e w12 ⟨rfl, hb12⟩
        have HB12 := Lib.hid hb12
        clear C1 C2 C3 hb12 y0
        go_wp2_with fail
        refine (HRM.out _).mono ?_
        rintro e w13 ⟨rfl, hb13⟩
        have HB13 := Lib.hid (HB12.out.trans (hb13.mono HB12.out.size))
        clear hb13 HB12
        go_wp2_with fail
        refine (C4.out _ HB13.out).mono ?_
        rintro e w14 ⟨rfl, hb14⟩
        have HB14 := Lib.hid (HB13.out.trans (hb14.mono HB13.out.size))
        clear hb14 HB13 C4
        have hkn := HKA2.out.below HB14.out
        have HKN := Lib.hid hkn
        clear hkn
        go_wp2
        go_roundw
        case rel => exact ⟨j + 1, by go_num, by omega, by rw [HLQ.out]; exact HKN.out⟩
        case measure => simp [intOf]; omega
    · obtain rfl : j = l.length := by omega
      obtain ⟨sbj, lbj, D, S, snap, hv, rfl, rfl, rfl, hon, hg, _⟩ := hka.ex
      have C9 := Lib.hid (at_format_no hon.at_ [120] (by decide) (hg.twice [120]))
      clear hka hon hg
      go_wp2_with fail
      refine C9.out.mono ?_
      rintro e w11 ⟨rfl, h11, _⟩
      have HB := Lib.hid h11.bel
      clear C9 h11
      go_wp2
      go_ret
      exact ⟨rfl, HB.out⟩
set_option maxRecDepth 100000 in
set_option maxHeartbeats 4000000 in
theorem keeps_small (c : Nat) (s : ByteArray) (v : Value) (l : List ActTy.den) (n : Nat) (hc : c < 256) (hn : n = 1 + c % 80) (W : World) (R : Rd.Reads W (.sl ActTy) [v] l) (hl : l.length ≤ 30) (hs : s.size ≤ 9223372036854775807) (h8 : n < 8) :
    Calls Tryd.prog 6 #[.int .u8 c, .string s, v] W fun e w' => e = .returned (.bool true) ∧ Below W.heap.size W w' := by
  have a1 : 1 + (c : Int) % 80 = (n : Int) := by omega
  have a2 : 1 + (c : Int).tmod 80 = (n : Int) := by rw [Int.tmod_eq_emod_of_nonneg (by omega)]; omega
  have hn80 : n ≤ 80 := by omega
  have hn1 : 1 ≤ n := by omega
  obtain ⟨aA, cA, h1, _⟩ := R
  obtain rfl := (List.cons.inj h1).1
  obtain ⟨t, ht⟩ : ∃ t, t = s.data.toList.take 120 := ⟨_, rfl⟩
  have ht120 : t.length ≤ 120 := by rw [ht, List.length_take]; omega
  have hsh := fun w => short_call s hs w
  rw [← ht] at hsh
  have hk : slotN n = 0 := by unfold slotN; rw [if_pos (.inl h8)]
  have hsl := fun w => slot_call n (by omega) w
  have hrs := fun w => refslot_call n (by omega) w
  rw [hk] at hsl hrs
  have HSH := Lib.hid (fun w => shown20 w)
  have HSHORT := Lib.hid hsh
  have HSL := Lib.hid hsl
  have HRS := Lib.hid hrs
  have R1 := Lib.hid (format_small (D := new n) (by rw [new_len]; exact h8) t)
  clear hsh hsl hrs hk hn ht h1
  go_enter Tryd.func6, Tryd.ntmps6
  go_wp2_with fail
  refine (HSH.out _).mono ?_
  rintro e w1 ⟨rfl, hb1⟩
  have HB1 := Lib.hid hb1
  clear hb1
  go_wp2_with fail
  refine (made n (by omega) (by omega) W w1 HB1.out).mono ?_
  rintro e w2 ⟨b, g, bm, rfl, h2, _⟩
  have H2 := Lib.hid h2
  clear h2
  go_wp2_with fail
  refine (HSL.out _).mono ?_
  rintro e w3 ⟨rfl, hb3⟩
  have H3 := Lib.hid (H2.out.below hb3)
  clear hb3
  go_wp2_with fail
  refine (HRS.out _).mono ?_
  rintro e w4 ⟨rfl, hb4⟩
  have H4 := Lib.hid (H3.out.below hb4)
  clear hb4
  go_wp2_with fail
  refine (HSHORT.out _).mono ?_
  rintro e w5 ⟨rfl, hb5⟩
  have C1 := Lib.hid (at_format_no (H4.out.below hb5) t (by omega) R1.out)
  clear hb5
  go_wp2_with fail
  refine C1.out.mono ?_
  rintro e w6 ⟨rfl, h6, _⟩
  have H6 := Lib.hid h6
  clear C1 h6
  go_wp2_with fail
  refine (HRS.out _).mono ?_
  rintro e w7 ⟨rfl, hb7⟩
  have H7 := Lib.hid (H6.out.below hb7)
  clear hb7
  go_wp2
  go_ret
  exact ⟨rfl, H7.out.bel⟩

set_option maxRecDepth 100000 in
set_option maxHeartbeats 4000000 in
theorem keeps_full (c : Nat) (s : ByteArray) (v : Value) (l : List ActTy.den) (n : Nat) (hc : c < 256) (hn : n = 1 + c % 80) (W : World) (R : Rd.Reads W (.sl ActTy) [v] l) (hl : l.length ≤ 30) (hs : s.size ≤ 9223372036854775807) (h8 : 8 ≤ n) (hfit : ¬ (s.data.toList.take 120).length + 24 ≤ 64 * slotN n) :
    Calls Tryd.prog 6 #[.int .u8 c, .string s, v] W fun e w' => e = .returned (.bool true) ∧ Below W.heap.size W w' := by
  have a1 : 1 + (c : Int) % 80 = (n : Int) := by omega
  have a2 : 1 + (c : Int).tmod 80 = (n : Int) := by rw [Int.tmod_eq_emod_of_nonneg (by omega)]; omega
  have hn80 : n ≤ 80 := by omega
  have hn1 : 1 ≤ n := by omega
  obtain ⟨aA, cA, h1, _⟩ := R
  obtain rfl := (List.cons.inj h1).1
  obtain ⟨t, ht⟩ : ∃ t, t = s.data.toList.take 120 := ⟨_, rfl⟩
  have ht120 : t.length ≤ 120 := by rw [ht, List.length_take]; omega
  have hsh := fun w => short_call s hs w
  rw [← ht] at hsh
  rw [← ht] at hfit
  obtain ⟨tt, htt, hts⟩ : ∃ tt : ByteArray, tt = ⟨t.toArray⟩ ∧ tt.size = t.length := ⟨_, rfl, by show t.toArray.size = _; simp⟩
  have hfi := fun w => fits_call n (by omega) tt (by omega) w
  rw [show decide (tt.size + 24 ≤ 64 * slotN n) = false from decide_eq_false (by omega)] at hfi
  obtain ⟨k, hk⟩ : ∃ k, k = slotN n := ⟨_, rfl⟩
  have hk1 : 1 ≤ k := by have := slot_pos h8 (show n ≤ 4096 by omega); omega
  have hk2 : 2 * k ≤ n := by rw [hk]; exact (slot_le n).1
  have hsl := fun w => slot_call n (by omega) w
  have hrs := fun w => refslot_call n (by omega) w
  rw [← hk] at hsl hrs
  have HSH := Lib.hid (fun w => shown20 w)
  have HSHORT := Lib.hid hsh
  have HSL := Lib.hid hsl
  have HRS := Lib.hid hrs
  have HFI := Lib.hid hfi
  have HTT := Lib.hid htt
  have R1 := Lib.hid (format_full h8 (show n ≤ 4096 by omega) (text := t) (by omega) (by omega))
  clear hsh hsl hrs hk hn ht h1 hfi htt hts hfit
  go_enter Tryd.func6, Tryd.ntmps6
  go_wp2_with fail
  refine (HSH.out _).mono ?_
  rintro e w1 ⟨rfl, hb1⟩
  have HB1 := Lib.hid hb1
  clear hb1
  go_wp2_with fail
  refine (made n (by omega) (by omega) W w1 HB1.out).mono ?_
  rintro e w2 ⟨b, g, bm, rfl, h2, _⟩
  have H2 := Lib.hid h2
  clear h2
  go_wp2_with fail
  refine (HSL.out _).mono ?_
  rintro e w3 ⟨rfl, hb3⟩
  have H3 := Lib.hid (H2.out.below hb3)
  clear hb3
  go_wp2_with fail
  refine (HRS.out _).mono ?_
  rintro e w4 ⟨rfl, hb4⟩
  have H4 := Lib.hid (H3.out.below hb4)
  clear hb4
  go_wp2_with fail
  refine (HSHORT.out _).mono ?_
  rintro e w5 ⟨rfl, hb5⟩
  have C1 := Lib.hid (at_format_no (H4.out.below hb5) t (by omega) R1.out)
  clear hb5
  go_wp2_with fail
  refine C1.out.mono ?_
  rintro e w6 ⟨rfl, h6, _⟩
  have H6 := Lib.hid h6
  clear C1 h6
  go_wp2_with fail
  refine (HRS.out _).mono ?_
  rintro e w7 ⟨rfl, hb7⟩
  have H7 := Lib.hid (H6.out.below hb7)
  clear hb7
  rw [← HTT.out]
  go_wp2_with fail
  refine (HFI.out _).mono ?_
  rintro e w8 ⟨rfl, hb8⟩
  have H8 := Lib.hid (H7.out.below hb8)
  clear hb8
  go_wp2
  go_ret
  exact ⟨rfl, H8.out.bel⟩

set_option maxRecDepth 100000 in
set_option maxHeartbeats 4000000 in
theorem keeps_far (c : Int) (s : ByteArray) (a : Option Addr) (n cap : Nat) (W : World) (hl : 30 < n) :
    Calls Tryd.prog 6 #[.int .u8 c, .string s, .slice a n cap] W fun e w' => e = .returned (.bool true) ∧ Below W.heap.size W w' := by
  have h2 : decide (30 < n) = true := decide_eq_true hl
  have HSH := Lib.hid (fun w => shown20 w)
  go_enter Tryd.func6, Tryd.ntmps6
  go_wp2_with (go_at_call 20; refine (HSH.out _).mono ?_; rintro e w1' ⟨rfl, hb⟩)
  go_ret
  exact ⟨rfl, hb⟩

theorem keeps_walk (a1 : Int) (s : ByteArray) (v : Value) (l : List ActTy.den) (W : World) (w1 : (Lit.int .u8 a1).wf = true) (w2 : s.size ≤ 140737488351232) (R : Rd.Reads W (.sl ActTy) [v] l) :
    Calls Tryd.prog 6 #[.int .u8 a1, .string s, v] W fun e w' => e = .returned (.bool true) ∧ Below W.heap.size W w' := by
  obtain ⟨b0, b1⟩ := bounds_u8 w1
  obtain ⟨c, rfl⟩ := Int.eq_ofNat_of_zero_le b0
  by_cases hl : l.length ≤ 30
  · by_cases h8 : 8 ≤ 1 + c % 80
    · by_cases hf : (s.data.toList.take 120).length + 24 ≤ 64 * slotN (1 + c % 80)
      · exact keeps_near c s v l _ (by omega) rfl W R hl (by omega) h8 hf
      · exact keeps_full c s v l _ (by omega) rfl W R hl (by omega) h8 hf
    · exact keeps_small c s v l _ (by omega) rfl W R hl (by omega) (by omega)
  · obtain ⟨a, cap, h1, _⟩ := R
    rw [(List.cons.inj h1).1]
    exact keeps_far c s a l.length cap W (by omega)
end Go.Proofs.YtoafebndlldclaaDoor.St
