/- The call of the law StoreFormats is proved: it answers true, whatever the text, the fuse and the fates. -/
import Derived.Test.YtoafebndlldclaaDoorStoreG
import Derived.Test.YtoafebndlldclaaDoorFound20
import Derived.Test.YtoafebndlldclaaDoorFmtP
import Derived.Test.YtoafebndlldclaaDoorStoreQ
import Derived.OpenShut
namespace Go.Proofs.YtoafebndlldclaaDoor.St
open Go Go.RowKit Go.Shelf Dk Fr Wl

theorem fates_row20 {W w : World} {b g bm : Nat} {v : Value} {l : List Int} (hr : Rd.RowOf W (Value.int .i64) v l) (hb : Below W.heap.size W w) (hf : ∀ k, Foot b g bm k → W.heap.size ≤ k) (hl : l.length ≤ 9223372036854775807) (hw : ∀ x ∈ l, -9223372036854775808 ≤ x ∧ x ≤ 9223372036854775807) : FatesAt b g bm w v l := by
  obtain ⟨a, cap, h1, h2, _, h4⟩ := hr
  refine ⟨a, cap, h1, h2, hl, hw, fun hne => ?_⟩
  obtain ⟨fb, off, k0, k1, k2⟩ := h4 hne
  exact ⟨fb, off, k0, Nat.lt_of_lt_of_le k1 hb.size, fun h => by have := hf _ h; omega, fun j x hj => (hb.cell (p := ⟨fb, off + j, none⟩) k1).trans (k2 j x hj)⟩

/-- a store or none: what Format hands back -/
theorem at_format_any {W w : World} {b g bm : Nat} {D D' : DS} (h : At W w b g bm D) (text : Bs) (ht : text.length ≤ 4611686018427387904) {o : Option SS} {x : Int} (hR : formatS D text = (D', o, x)) :
    Calls Tryd.prog 22 #[.pointer (some ⟨b, 0, none⟩), .string ⟨text.toArray⟩] w fun e w' => ∃ p : Option Addr, e = .returned (.tuple #[.pointer p, .int .i64 x]) ∧ At W w' b g bm D' ∧ (o.isSome = true → ∃ a, p = some a) := by
  refine (format_call h.disk text ht _ hR).mono ?_
  rintro e w' ⟨p, rfl, hd, hk, hs⟩
  refine ⟨p, rfl, h.step hd hk, fun ho => ?_⟩
  cases o with
  | none => cases ho
  | some S => obtain ⟨sb, lb, rfl, _⟩ := hs; exact ⟨_, rfl⟩

set_option maxRecDepth 100000 in
set_option maxHeartbeats 8000000 in
theorem formats_near (s : ByteArray) (c : Nat) (v : Value) (l : List Int) (f : Nat) (hc : c < 256) (hf : f = 1 + c % 9) (W : World) (R : Rd.RowOf W (Value.int .i64) v l) (hl : l.length ≤ 60) (hw : ∀ x ∈ l, -9223372036854775808 ≤ x ∧ x ≤ 9223372036854775807) (hs : s.size ≤ 9223372036854775807) :
    Calls Tryd.prog 10 #[.string s, .int .u8 c, v] W fun e w' => e = .returned (.bool true) ∧ Below W.heap.size W w' := by
  have a1 : 1 + (c : Int) % 9 = (f : Int) := by omega
  have a2 : 1 + (c : Int).tmod 9 = (f : Int) := by rw [Int.tmod_eq_emod_of_nonneg (by omega)]; omega
  obtain ⟨aA, cA, rfl⟩ : ∃ a cap, v = .slice a l.length cap := by obtain ⟨a, cap, h1, _⟩ := R; exact ⟨a, cap, h1⟩
  obtain ⟨t, ht⟩ : ∃ t, t = s.data.toList.take 120 := ⟨_, rfl⟩
  have ht120 : t.length ≤ 120 := by rw [ht, List.length_take]; omega
  obtain ⟨D1, o1, x1, D2, r1, r2, fo, hxo⟩ := fmt_on ht120 (f := f) (by omega) l
  have hsh := fun w => short_call s hs w
  rw [← ht] at hsh
  have HSHORT := Lib.hid hsh
  have HSH := Lib.hid (fun w => shown20 w)
  have HR := Lib.hid R
  have HW := Lib.hid hw
  have R1 := Lib.hid r1
  have R2 := Lib.hid r2
  have FO := Lib.hid fo
  have HXO := Lib.hid hxo
  have HT := Lib.hid ht120
  have hf9 : f ≤ 9 := by omega
  clear R hw r1 r2 fo hxo ht hsh hf
  go_enter Tryd.func10, Tryd.ntmps10
  go_wp2_with fail
  refine (HSH.out _).mono ?_
  rintro e w1 ⟨rfl, hb1⟩
  have HB1 := Lib.hid hb1
  clear hb1
  go_wp2_with fail
  refine (made 40 (by decide) (by decide) W w1 HB1.out).mono ?_
  rintro e w2 ⟨b, g, bm, rfl, h2, _⟩
  have H2 := Lib.hid h2
  clear h2
  go_wp2_with fail
  refine (HSHORT.out _).mono ?_
  rintro e w3 ⟨rfl, hb3⟩
  have H3 := Lib.hid (H2.out.below hb3)
  clear hb3
  have C1 := Lib.hid (H3.out.setFuse (f : Int) (by omega))
  go_wp2_with fail
  refine C1.out.mono ?_
  rintro e w4 ⟨rfl, h4, _⟩
  have C2 := Lib.hid (at_format_any h4 t (by have := HT.out; omega) R1.out)
  clear C1 h4
  go_wp2_with fail
  refine C2.out.mono ?_
  rintro e w5 ⟨p5, rfl, h5, s5⟩
  have S5 := Lib.hid s5
  have C3 := Lib.hid h5.cut
  clear C2 h5 s5
  go_wp2_with fail
  refine C3.out.mono ?_
  rintro e w6 ⟨rfl, h6, _⟩
  have H6 := Lib.hid h6
  have hfa := fates_row20 HR.out h6.bel (fun k hk => h6.foot hk) (by omega) HW.out
  have C4 := Lib.hid (h6.on _ _ hfa)
  clear C3 h6 hfa
  have c4 := C4.out
  rw [R2.out] at c4
  have C4' := Lib.hid c4
  clear C4 c4
  go_wp2_with fail
  refine C4'.out.mono ?_
  rintro e w7 ⟨rfl, h7, _⟩
  have H7 := Lib.hid h7
  have C5 := Lib.hid (bytes20_call h7.disk FO.out.calm.up)
  clear C4' h7
  go_wp2_with fail
  refine C5.out.mono ?_
  rintro e w8 ⟨rfl, hb8⟩
  have H8 := Lib.hid (H7.out.below hb8)
  have C6 := Lib.hid (found20 FO.out.calm.ok (by rw [FO.out.len]; omega) w8)
  clear C5 hb8
  have hfd := FO.out.found
  obtain ⟨a, ha⟩ : ∃ a, a = snapOf (bytesOf D2 0 10) := ⟨_, rfl⟩
  have hop := FO.out.open_
  have hyes := FO.out.yes
  have hno := FO.out.no
  have htw := FO.out.twice
  have hag := FO.out.again
  rw [← ha] at hfd hop hyes hno htw hag
  rcases hop with ⟨h0, S2, r3⟩ | ⟨h0, r3⟩
  · obtain ⟨q, r⟩ := a
    rw [if_pos h0] at hfd
    have h0 : 0 < q := h0
    have r3 : openS D2 = (D2, some S2, r, [], 0) := r3
    have c6 := C6.out
    rw [hfd] at c6
    obtain ⟨rr, hrr⟩ : ∃ rr : ByteArray, rr = ⟨r.toArray⟩ := ⟨_, rfl⟩
    obtain ⟨tt, htt⟩ : ∃ tt : ByteArray, tt = ⟨t.toArray⟩ := ⟨_, rfl⟩
    simp only [← hrr] at c6
    rw [← htt]
    have HRR := Lib.hid hrr
    have HTT := Lib.hid htt
    have C6' := Lib.hid c6
    have R3 := Lib.hid r3
    have hq0 : (0 : Int) < (q : Int) := by omega
    have HYES := Lib.hid hyes
    have HNO := Lib.hid hno
    have HTW := Lib.hid (htw h0)
    clear hfd c6 C6 r3 hyes hno htw hag hrr htt ha
    go_wp2_with fail
    refine C6'.out.mono ?_
    rintro e w9 ⟨v9, rfl, hb9⟩
    have H9 := Lib.hid (H8.out.below hb9)
    have c7 := at_sopen (H8.out.below hb9) R3.out
    simp only [← HRR.out] at c7
    have C7 := Lib.hid c7
    clear C6' hb9 c7
    go_wp2_with fail
    refine C7.out.mono ?_
    rintro e w10 ⟨sb, lb, v10, rfl, h10, t10, _⟩
    obtain ⟨a10, c10, rfl⟩ := t10.len
    have H10 := Lib.hid h10
    clear C7 h10 t10
    rw [List.length_nil]
    by_cases hrt : rr = tt
    · subst hrt
      by_cases hx : x1 = 0
      · subst hx
        obtain ⟨a5, rfl⟩ := S5.out (HXO.out.1 rfl)
        have C8 := Lib.hid (at_format_no H10.out.at_ [120] (by decide) (HTW.out [120]))
        go_wp2_with fail
        refine C8.out.mono ?_
        rintro e w11 ⟨rfl, h11, _⟩
        have HB := Lib.hid h11.bel
        clear C8 h11
        go_wp2
        go_ret
        exact ⟨rfl, HB.out⟩
      · have hxe : (x1 == 0) = false := by rw [beq_eq_false_iff_ne]; exact hx
        have C8 := Lib.hid (at_format_no H10.out.at_ [120] (by decide) (HTW.out [120]))
        go_wp2_with fail
        refine C8.out.mono ?_
        rintro e w11 ⟨rfl, h11, _⟩
        have HB := Lib.hid h11.bel
        clear C8 h11
        go_wp2
        go_ret
        exact ⟨rfl, HB.out⟩
    · have hlen : 0 < l.length := by
        rcases Nat.eq_zero_or_pos l.length with hz | hz
        · exfalso
          have hl0 : l = [] := List.eq_nil_of_length_eq_zero hz
          by_cases hx : x1 = 0
          · have := HYES.out (decide_eq_true hx)
            injection this with e1 e2
            exact hrt (by rw [HRR.out, HTT.out, e2])
          · have := HNO.out (decide_eq_false hx) hl0
            have : q = 0 := this
            omega
        · exact hz
      have hll : (0 : Int) < (l.length : Int) := by omega
      have hne : (rr.toList == tt.toList) = false := by
        rw [beq_eq_false_iff_ne, ByteArray.toList_eq, ByteArray.toList_eq]
        exact fun e => hrt (ext_list e)
      have HB := Lib.hid H10.out.bel
      go_wp2
      go_ret
      exact ⟨by simp [hlen], HB.out⟩
  · obtain ⟨q, r⟩ := a
    have h0 : q = 0 := h0
    subst h0
    rw [if_neg (by simp)] at hfd
    have hx : x1 ≠ 0 := by
      intro hx
      have := hyes (decide_eq_true hx)
      injection this with e1 e2
      cases e1
    obtain ⟨D5, S5', r5, g5⟩ := hag rfl (text := [97, 103, 97, 105, 110]) (by decide)
    obtain ⟨D6, r6, _, _⟩ := g5.open_same
    have c6 := C6.out
    rw [hfd] at c6
    have C6' := Lib.hid c6
    have R3 := Lib.hid r3
    have R5 := Lib.hid r5
    have R6 := Lib.hid r6
    have hxe : (x1 == 0) = false := by rw [beq_eq_false_iff_ne]; exact hx
    clear hfd c6 C6 r3 r5 g5 r6 hyes hno htw hag ha
    go_wp2_with fail
    refine C6'.out.mono ?_
    rintro e w9 ⟨v9, rfl, hb9⟩
    have C7 := Lib.hid (at_sopen_no (H8.out.below hb9) R3.out)
    clear C6' hb9
    go_wp2_with fail
    refine C7.out.mono ?_
    rintro e w10 ⟨v10, rfl, h10, _, _⟩
    have C8 := Lib.hid (at_format h10 [97, 103, 97, 105, 110] (by decide) R5.out)
    clear C7 h10
    go_wp2_with fail
    refine C8.out.mono ?_
    rintro e w11 ⟨sb, lb, rfl, h11, _⟩
    have C9 := Lib.hid (at_sopen h11.at_ R6.out)
    clear C8 h11
    go_wp2_with fail
    refine C9.out.mono ?_
    rintro e w12 ⟨sb2, lb2, v12, rfl, h12, _, _⟩
    have HB := Lib.hid h12.bel
    clear C9 h12
    go_wp2
    go_ret
    exact ⟨rfl, HB.out⟩

set_option maxRecDepth 100000 in
set_option maxHeartbeats 4000000 in
theorem formats_far (s : ByteArray) (c : Int) (v : Value) (l : List Int) (W : World) (R : Rd.RowOf W (Value.int .i64) v l) (hl : 60 < l.length) :
    Calls Tryd.prog 10 #[.string s, .int .u8 c, v] W fun e w' => e = .returned (.bool true) ∧ Below W.heap.size W w' := by
  obtain ⟨aA, cA, rfl⟩ : ∃ a cap, v = .slice a l.length cap := by obtain ⟨a, cap, h1, _⟩ := R; exact ⟨a, cap, h1⟩
  have h2 : decide (60 < l.length) = true := decide_eq_true hl
  have HSH := Lib.hid (fun w => shown20 w)
  clear R
  go_enter Tryd.func10, Tryd.ntmps10
  go_wp2_with (go_at_call 20; refine (HSH.out _).mono ?_; rintro e w1' ⟨rfl, hb⟩)
  go_ret
  exact ⟨rfl, hb⟩

theorem formats_walk (s : ByteArray) (a1 : Int) (v : Value) (l : List Int) (W : World) (w0 : s.size ≤ 140737488351232) (w1 : (Lit.int .u8 a1).wf = true) (R0 : Rd.Reads W (.sl (.int .i64)) [v] l) :
    Calls Tryd.prog 10 #[.string s, .int .u8 a1, v] W fun e w' => e = .returned (.bool true) ∧ Below W.heap.size W w' := by
  obtain ⟨h1, h2⟩ := Rd.row_ints R0
  obtain ⟨b0, b1⟩ := bounds_u8 w1
  obtain ⟨c, rfl⟩ := Int.eq_ofNat_of_zero_le b0
  by_cases hl : l.length ≤ 60
  · exact formats_near s c v l _ (by omega) rfl W h1 hl (fun x hx => by obtain ⟨p, q⟩ := bounds_i64 (h2 x hx); omega) (by omega)
  · exact formats_far s c v l W h1 (by omega)
end Go.Proofs.YtoafebndlldclaaDoor.St
