/- The call of the law StoreEpochs is proved: it answers true, whatever the disk's size and the texts. -/
import Derived.Test.YtoafebndlldclaaDoorStoreG
import Derived.Test.YtoafebndlldclaaDoorStoreQ
import Derived.OpenShut
namespace Go.Proofs.YtoafebndlldclaaDoor.St
open Go Go.RowKit Go.Shelf Dk Fr Wl

/-- a store on a disk of the call's own, with its state's plain word -/
structure EpoAt (W : World) (b g bm sb : Nat) (n : Nat) (j : Nat) (wr : World) : Prop where
  ex : ∃ lb D S snap, StoreOn W wr b g bm sb lb D S ∧ GoodS D S snap [] ∧ S.ep = j + 1 ∧ D.olds.length = n

set_option maxRecDepth 100000 in
set_option maxHeartbeats 8000000 in
theorem epochs_near (c : Nat) (v : Value) (l : List Bs) (n : Nat) (hc : c < 256) (hn : n = 24 + c % 60) (W : World) (R : RowT W v l) (hl : l.length ≤ 20) (hs : ∀ t ∈ l, t.length ≤ 9223372036854775807) :
    Calls Tryd.prog 7 #[.int .u8 c, v] W fun e w' => e = .returned (.bool true) ∧ Below W.heap.size W w' := by
  have a1 : 24 + (c : Int) % 60 = (n : Int) := by omega
  have a2 : 24 + (c : Int).tmod 60 = (n : Int) := by rw [Int.tmod_eq_emod_of_nonneg (by omega)]; omega
  have hn83 : n ≤ 83 := by omega
  have hn24 : 24 ≤ n := by omega
  have hk : slotN n = n / 4 := slot_pos (by omega) (by omega)
  obtain ⟨aA, cA, rfl⟩ := R.len
  obtain ⟨D1, S1, r1, g1, e1, l1⟩ := format_ok (n := n) (by omega) (by omega) (text := [48]) (by decide) (by simp; omega)
  have HSH := Lib.hid (fun w => shown20 w)
  have HR := Lib.hid R
  have HSM := Lib.hid hs
  have R1 := Lib.hid r1
  have G1 := Lib.hid g1
  have E1 := Lib.hid e1
  have L1 := Lib.hid l1
  clear R hs r1 g1 e1 l1 hn hk
  go_enter Tryd.func7, Tryd.ntmps7
  go_wp2_with fail
  refine (HSH.out _).mono ?_
  rintro e w1 ⟨rfl, hb1⟩
  have HB1 := Lib.hid hb1
  clear hb1
  go_wp2_with fail
  refine (made n (by omega) (by omega) W w1 HB1.out).mono ?_
  rintro e w2 ⟨b, g, bm, rfl, h2, _⟩
  have C1 := Lib.hid (at_format h2 [48] (by decide) R1.out)
  clear h2
  go_wp2_with fail
  refine C1.out.mono ?_
  rintro e w3 ⟨sb, lb, rfl, h3, _⟩
  have H3 := Lib.hid h3
  have C2 := Lib.hid h3.epoch
  clear C1 h3
  go_wp2_with fail
  have c2 := C2.out
  rw [E1.out] at c2
  refine c2.mono ?_
  rintro e w4 ⟨rfl, rfl⟩
  clear C2 c2
  go_wp2
  have H30 : Hid (EpoAt W b g bm sb n 0 w3) := Lib.hid ⟨lb, D1, S1, [48], H3.out, G1.out, E1.out, L1.out⟩
  clear H3
  go_loopw [9, 10, 11, 12, 13] (fun i _ _ _ _ wr => ∃ j : Nat, i = .int .i64 j ∧ j ≤ l.length ∧ EpoAt W b g bm sb n j wr) (fun i _ _ _ _ _ => l.length - (intOf i).toNat)
  case atStart => exact ⟨0, rfl, Nat.zero_le _, H30.out⟩
  case round =>
    obtain ⟨j, rfl, hj, hat⟩ := hrel
    obtain ⟨lbj, D, S, snap, hon, hg, hep, hln⟩ := hat.ex
    by_cases hjl : j < l.length
    · obtain ⟨t, ht⟩ : ∃ t, l[j]? = some t := ⟨_, List.getElem?_eq_getElem hjl⟩
      have htl := HSM.out t (List.mem_of_getElem? ht)
      obtain ⟨D2, D3, D4, S2, S3, hst⟩ := epoch_step hg (by omega) (by omega) (t := t.take 120) (by rw [List.length_take]; omega)
      have HON := Lib.hid hon
      have HG := Lib.hid hg
      have HEP := Lib.hid hep
      have HLN := Lib.hid hln
      have HST := Lib.hid hst
      have HT := Lib.hid ht
      clear hat hon hg hep hln hst ht
      obtain ⟨_, _, hv1, _, _, hv4⟩ := HR.out
      obtain ⟨rfl, _⟩ : aA = _ ∧ True := ⟨(Value.slice.inj hv1).1, trivial⟩
      obtain ⟨bb, off, rfl, hbb, hcell⟩ := hv4 (by intro e; rw [e] at hjl; simp at hjl)
      have HC := Lib.hid (fun (w' : World) (hb : Below W.heap.size W w') => (hb.cell (p := ⟨bb, off + j, none⟩) hbb).trans (hcell j t HT.out))
      have HSHO := Lib.hid (fun w => short_call ⟨t.toArray⟩ (by rw [ba_size']; exact htl) w)
      rw [show (⟨t.toArray⟩ : ByteArray).data.toList = t from by simp] at HSHO
      have hji : (j : Int) < (l.length : Int) := by omega
      have u1 : IntKind.u64.wrap (j : Int) = (j : Int) := IntWalk.u64_in _ (by omega)
      have u2 : IntKind.u64.wrap ((j : Int) + 2) = (j : Int) + 2 := IntWalk.u64_in _ (by omega)
      have HE3 : Hid (S3.ep = j + 2) := Lib.hid (by have := HST.out.ep; have := HEP.out; omega)
      clear hv1 hv4 hcell htl
      have C1 := Lib.hid ((HON.out.alloc (.cells #[.string ⟨#[97]⟩] 9)).append HG.out.saneL _ [[97]] (row_new wr [[97]] (by simp)) (by simp) HST.out.r1)
      go_wp2_with fail
      refine C1.out.mono ?_
      rintro e w5 ⟨rfl, h5, _⟩
      have H5 := Lib.hid h5
      have q5 := HC.out w5 h5.bel
      clear C1 h5
      go_wp2_with fail
      refine (HSHO.out _).mono ?_
      rintro e w6 ⟨rfl, hb6⟩
      have C2 := Lib.hid ((H5.out.below hb6).compact HST.out.a2 HST.out.b2 (t.take 120) (by rw [List.length_take]; omega) HST.out.r2)
      clear hb6 q5
      go_wp2_with fail
      refine C2.out.mono ?_
      rintro e w7 ⟨rfl, lb7, h7, _⟩
      have H7 := Lib.hid h7
      have q7 : w7.cell? ⟨sb, 0, none⟩ = some (.pointer (some ⟨lb7, 0, none⟩)) := cell_of_row w7 sb 0 _ _ _ h7.st
      have c3 := h7.epoch
      rw [HE3.out] at c3
      have C3 := Lib.hid c3
      have c4 := len_log h7.log.log (by rw [HST.out.many]; omega)
      rw [HST.out.many] at c4
      have C4 := Lib.hid c4
      clear C2 h7 c3 c4
      go_wp2_with fail
      refine C3.out.mono ?_
      rintro e w8 ⟨rfl, rfl⟩
      go_wp2_with fail
      refine C4.out.mono ?_
      rintro e w8 ⟨rfl, rfl⟩
      have C5 := Lib.hid (at_sopen H7.out.at_ HST.out.r3)
      clear C3 C4
      go_wp2_with fail
      refine C5.out.mono ?_
      rintro e w9 ⟨sb9, lb9, v9, rfl, h9, t9, k9⟩
      obtain ⟨a9, c9, rfl⟩ := t9.len
      have H9 := Lib.hid h9
      have HS9 := Lib.hid (H7.out.disk h9.at_ k9)
      have q9 := HC.out w9 h9.bel
      clear C5 h9 t9 k9 q7
      rw [List.length_nil]
      go_wp2_with fail
      refine (HSHO.out _).mono ?_
      rintro e w10 ⟨rfl, hb10⟩
      have c6 := (H9.out.below hb10).epoch
      have c7 := (HS9.out.below hb10).epoch
      rw [HE3.out] at c6 c7
      have C6 := Lib.hid c6
      have C7 := Lib.hid c7
      have HS10 := Lib.hid (HS9.out.below hb10)
      clear hb10 q9 c6 c7
      go_wp2_with fail
      refine C6.out.mono ?_
      rintro e w11 ⟨rfl, rfl⟩
      go_wp2_with fail
      refine C7.out.mono ?_
      rintro e w11 ⟨rfl, rfl⟩
      go_wp2
      go_roundw
      case rel => exact ⟨j + 1, by go_num, by omega, lb7, D4, S3, _, HS10.out, HST.out.good, HE3.out, HST.out.len.trans HLN.out⟩
      case measure => simp [intOf]; omega
    · obtain rfl : j = l.length := by omega
      have HON := Lib.hid hon.bel
      clear hat hon hg
      go_wp2
      go_ret
      exact ⟨rfl, HON.out⟩

set_option maxRecDepth 100000 in
set_option maxHeartbeats 4000000 in
theorem epochs_far (c : Int) (v : Value) (l : List Bs) (W : World) (R : RowT W v l) (hl : 20 < l.length) :
    Calls Tryd.prog 7 #[.int .u8 c, v] W fun e w' => e = .returned (.bool true) ∧ Below W.heap.size W w' := by
  obtain ⟨aA, cA, rfl⟩ := R.len
  have h2 : decide (20 < l.length) = true := decide_eq_true hl
  have HSH := Lib.hid (fun w => shown20 w)
  clear R
  go_enter Tryd.func7, Tryd.ntmps7
  go_wp2_with (go_at_call 20; refine (HSH.out _).mono ?_; rintro e w1' ⟨rfl, hb⟩)
  go_ret
  exact ⟨rfl, hb⟩

theorem epochs_walk (a1 : Int) (v : Value) (l : List ByteArray) (W : World) (w1 : (Lit.int .u8 a1).wf = true) (R0 : Rd.Reads W (.sl .str) [v] l) :
    Calls Tryd.prog 7 #[.int .u8 a1, v] W fun e w' => e = .returned (.bool true) ∧ Below W.heap.size W w' := by
  obtain ⟨h1, h2⟩ := Rd.row_strs R0
  have hr : RowT W v (l.map fun s => s.data.toList) := row_map h1
  obtain ⟨b0, b1⟩ := bounds_u8 w1
  obtain ⟨c, rfl⟩ := Int.eq_ofNat_of_zero_le b0
  by_cases hl : l.length ≤ 20
  · exact epochs_near c v _ _ (by omega) rfl W hr (by rw [List.length_map]; exact hl) (small_map h2)
  · exact epochs_far c v _ W hr (by rw [List.length_map]; omega)
end Go.Proofs.YtoafebndlldclaaDoor.St
