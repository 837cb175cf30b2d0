/- The walk of DigitZeros. -/
import Derived.Test.YtgdlkpfkaehebaaDoorDp
import Derived.Laws.IdiomStrings
set_option linter.unusedVariables false
set_option linter.unusedSimpArgs false
namespace Go.Proofs.YtgdlkpfkaehebaaDoor.Dq
open Go Go.RowKit Go.Proofs.YtgdlkpfkaehebaaDoorW.PrintWords Go.Proofs.YtgdlkpfkaehebaaDoorW.PrintLast Go.Proofs.YtgdlkpfkaehebaaDoorW.PrintMore
open Nt Lm Bs Pr Ra Do Fr Pz Dp

theorem ok_nil : okS [] = false := rfl
theorem ok_zeros (z u : Nat) (hz : 1 ≤ z) : okS (List.replicate z 48 ++ text u) = false := by
  obtain ⟨k, rfl⟩ : ∃ k, z = k + 1 := ⟨z - 1, by omega⟩
  have h1 : 1 < (List.replicate (k + 1) 48 ++ text u).length := by
    have : 0 < (text u).length := List.length_pos_iff.2 (text_ne u)
    rw [List.length_append, List.length_replicate]
    omega
  unfold okS
  rw [List.replicate_succ, List.cons_append] at h1 ⊢
  simp [h1]
  intros
  simpa using h1
theorem ok_odd (u : Nat) {c : UInt8} (h : isDig c = false) : okS (text u ++ [c]) = false := by
  unfold okS
  simp [h]
/-- the error of any text -/
def anyE (t : Bs) : Int := if okS t = true then parseE t else 40
theorem parse_any (s : ByteArray) (w : World) (hs : s.size ≤ 4611686018427387904) :
    Calls Tryd.prog 14 #[.string s] w fun e w' => (∃ v, e = .returned (.tuple #[v, .int .i64 (anyE s.data.toList)])) ∧ Below w.heap.size w w' := by
  unfold anyE
  by_cases h : okS s.data.toList = true
  · rw [if_pos h]
    exact (parse_ok s w hs h).mono fun e w' ⟨v, h1, _, h3⟩ => ⟨⟨v, h1⟩, h3⟩
  · rw [if_neg h]
    exact (parse_bad s w hs (by simpa using h)).mono fun e w' ⟨h1, h3⟩ => ⟨⟨_, h1⟩, h3⟩

theorem conv1 (d : Nat) (hd : d < 256) (w : World) : (convert 39 9 (.slice (some ⟨w.heap.size, 0, none⟩) 1 1)).run Tryd.prog (w.alloc (.cells #[.int .u8 (d : Int)] 5)) = .ok (.string (ba [UInt8.ofNat d])) (w.alloc (.cells #[.int .u8 (d : Int)] 5)) := by
  refine run_convert_bytes_back _ 39 9 5 ⟨w.heap.size, 0, none⟩ 1 [UInt8.ofNat d] (by kernel_rfl) (by kernel_rfl) (by kernel_rfl) (fun j hj => ?_)
  obtain rfl : j = 0 := by simpa using hj
  rw [show (⟨w.heap.size, 0, none⟩ : Addr).add 0 = ⟨w.heap.size, 0, none⟩ from by unfold Addr.add; simp, World.cell?_alloc_at _ _ _ _ rfl]
  have h2 : (UInt8.ofNat d).toNat = d := by rw [UInt8.toNat_ofNat']; omega
  simp [h2]

set_option maxHeartbeats 2000000 in
set_option maxRecDepth 100000 in
theorem zeros_walk (v0 : Value) (l0 : List Int) (z : Int) (d : Int) (W : World) (hpow : Fu.Pow W) (R0 : Rd.Reads W (.sl (.int .u64)) [v0] l0) (hz : (Lit.int .u8 z).wf = true) (hd : (Lit.int .u8 d).wf = true) :
    Calls Tryd.prog 6 #[v0, .int .u8 z, .int .u8 d] W fun e W' => e = .returned (.bool true) ∧ Below W.heap.size W W' := by
  obtain ⟨A, c, a, rfl, hc, hr, hla, hl⟩ := arg_rw R0
  obtain ⟨z, rfl, hz8⟩ := wf_u8 hz
  obtain ⟨d, rfl, hd8⟩ := wf_u8 hd
  obtain ⟨hmx, hlx, h8x⟩ := held_may hla
  have HA := Lib.hid (held_call A c a W hr hc hl)
  obtain ⟨x, hx⟩ : ∃ x, x = trimF (a.take 8) := ⟨_, rfl⟩
  rw [← hx] at HA hmx hlx h8x
  have HPOW := Lib.hid hpow
  obtain ⟨u, hu⟩ : ∃ u, u = val x := ⟨_, rfl⟩
  have hu8 : u < B8 := by rw [hu]; exact val_lt8 h8x hlx
  have hlen := text_small hu8
  have HPR := Lib.hid (fun A1 c1 w1 h1 h2 h3 => print_call A1 c1 x w1 h1 hmx hlx h2 h3)
  rw [← hu] at HPR
  obtain ⟨q, hq⟩ : ∃ q, q = 1 + z % 5 := ⟨_, rfl⟩
  have hq1 : 1 ≤ q ∧ q ≤ 5 := by omega
  obtain ⟨r, hr5⟩ : ∃ r, r = z % 5 := ⟨_, rfl⟩
  have hr4 : r < 5 := by omega
  have hqr : q = 1 + r := by omega
  have hqm : (z : Int) % 5 = (r : Int) := by omega
  have hwq : (1 : Int) + (r : Int) = (q : Int) := by omega
  have hw2 : IntKind.i64.wrap (q : Int) = (q : Int) := IntWalk.i64_in _ (by omega)
  have hq5 : q ≤ 5 := hq1.2
  have hw3 : IntKind.i64.wrap (1 + (r : Int)) = (q : Int) := by rw [hwq, hw2]
  have HZ := Lib.hid (fun w => parse_bad (ba (List.replicate q 48 ++ text u)) w (by rw [ba_size]; simp; omega) (by rw [ba_list]; exact ok_zeros q u hq1.1))
  have HN := Lib.hid (fun w => parse_bad ⟨#[]⟩ w (by show 0 ≤ _; omega) ok_nil)
  have HD := Lib.hid (fun w => parse_any (ba (text u ++ [UInt8.ofNat d])) w (by rw [ba_size]; simp; omega))
  have hodd : (48 ≤ d ∧ d ≤ 57) ∨ anyE (text u ++ [UInt8.ofNat d]) = 40 := by
    by_cases h : isDig (UInt8.ofNat d) = true
    · left
      have h2 : (UInt8.ofNat d).toNat = d := by rw [UInt8.toNat_ofNat']; omega
      unfold isDig at h
      rw [h2] at h
      simpa using h
    · right
      unfold anyE
      rw [if_neg (by rw [ok_odd u (by simpa using h)]; simp)]
  have HODD := Lib.hid hodd
  obtain ⟨tu, htu⟩ : ∃ t, t = text u := ⟨_, rfl⟩
  rw [← htu] at hlen HPR HZ HD HODD
  rw [ba_list] at HD
  obtain ⟨s, hs⟩ : ∃ s, s = ba tu := ⟨_, rfl⟩
  have hsz : s.size ≤ 155 := by rw [hs, ba_size]; exact hlen
  simp only [← hs] at HPR
  have HS := Lib.hid hs
  have HSZ := Lib.hid hsz
  clear hr5 hq hqr hq1
  clear R0 hr hl hla hx hpow hmx hlx hs hu hu8 hz hd htu hodd
  go_enter Tryd.func6, Tryd.ntmps6
  go_wp2_with fail
  refine (HA.out).mono ?_
  rintro e w1 ⟨vx, rfl, hvx, hb1⟩
  obtain ⟨A1, c1, rfl, hc1, hr1⟩ := hvx.open
  have HR1 := Lib.hid hr1
  have HB1 := Lib.hid hb1
  clear hvx hr1 hb1
  go_wp2_with fail
  refine (HPR.out A1 c1 w1 HR1.out hc1 (pow_below HPOW.out HB1.out)).mono ?_
  rintro e w2 ⟨rfl, hb2⟩
  have HB2 := Lib.hid (HB1.out.trans (hb2.mono HB1.out.size))
  clear hb2 HR1 HB1
  go_wp2_with fail
  go_loop [9, 10] (fun t v => ∃ (i : Nat) (tt : ByteArray), i ≤ q ∧ v = .int .i64 (i : Int) ∧ t = .string tt ∧ tt.size ≤ 155 + i ∧ Hid (tt = ba (List.replicate i 48 ++ tu))) (fun _ v => q - (intOf v).toNat)
  case atStart => exact ⟨0, s, by omega, rfl, rfl, by omega, Lib.hid HS.out⟩
  case round =>
    obtain ⟨i, tt, hi, rfl, rfl, htz, ht⟩ := hrel
    by_cases hiq : i < q
    · have hiq' : (i : Int) < (q : Int) := by omega
      have h1z : (⟨#[48]⟩ : ByteArray).size = 1 := rfl
      go_wp2_with fail
      go_round
      case rel => exact ⟨i + 1, _, by omega, by go_num, rfl, by rw [ByteArray.size_append, h1z]; omega, Lib.hid (by rw [ht.out, show (⟨#[48]⟩ : ByteArray) = ba [48] from rfl, ba_append]; rfl)⟩
      case measure => simp [intOf]; omega
    · have hiq' : ¬ (i : Int) < (q : Int) := by omega
      obtain rfl : i = q := by omega
      rw [← ht.out] at HZ
      have hrel := Lib.hid HS.out
      clear htz hz8 hsz
      go_wp2_with fail
      refine (HZ.out w2).mono ?_
      rintro e w3 ⟨rfl, hb3⟩
      have HB3 := Lib.hid (HB2.out.trans (hb3.mono HB2.out.size))
      clear hb3
      go_wp2_with fail
      refine (HN.out w3).mono ?_
      rintro e w4 ⟨rfl, hb4⟩
      have HB4 := Lib.hid (HB3.out.trans (hb4.mono HB3.out.size))
      clear hb4
      have hconv := conv1 d hd8 w4
      obtain ⟨od, hod⟩ : ∃ o, o = ba [UInt8.ofNat d] := ⟨_, rfl⟩
      have hodz : od.size = 1 := by rw [hod, ba_size]; rfl
      have hssz : s.size ≤ 155 := HSZ.out
      rw [← hod] at hconv
      have hsum : s ++ od = ba (tu ++ [UInt8.ofNat d]) := by rw [HS.out, hod, ba_append]
      rw [← hsum] at HD
      clear hsum hod
      go_wp2_with fail
      obtain ⟨G, hG⟩ : ∃ G, G = anyE (tu ++ [UInt8.ofNat d]) := ⟨_, rfl⟩
      rw [← hG] at HD HODD
      have HW4 := Lib.hid (HB4.out.alloc HB4.out.size (.cells #[Value.int IntKind.u8 (d : Int)] 5))
      clear hG hconv hodz hssz
      refine (HD.out _).mono ?_
      rintro e w5 ⟨⟨v5, rfl⟩, hb5⟩
      have HB5 := Lib.hid (HW4.out.trans (hb5.mono HW4.out.size))
      clear hb5
      have HSH := Lib.hid (shown_call w5 (pow_below HPOW.out HB5.out))
      by_cases k1 : 48 ≤ d
      · have k1' : (48 : Int) ≤ (d : Int) := by omega
        by_cases k2 : d ≤ 57
        · have k2' : (d : Int) ≤ 57 := by omega
          go_wp2_with fail
          refine (HSH.out).mono ?_
          rintro e w6 ⟨rfl, hb6⟩
          go_wp2_with fail
          go_ret
          exact ⟨by first | rfl | (simp; done), HB5.out.trans (hb6.mono HB5.out.size)⟩
        · have k2' : ¬ (d : Int) ≤ 57 := by omega
          obtain rfl : G = 40 := by rcases HODD.out with h | h; exact absurd h.2 k2; exact h
          go_wp2_with fail
          refine (HSH.out).mono ?_
          rintro e w6 ⟨rfl, hb6⟩
          go_wp2_with fail
          go_ret
          exact ⟨by first | rfl | (simp; done), HB5.out.trans (hb6.mono HB5.out.size)⟩
      · have k1' : ¬ (48 : Int) ≤ (d : Int) := by omega
        obtain rfl : G = 40 := by rcases HODD.out with h | h; exact absurd h.1 k1; exact h
        go_wp2_with fail
        refine (HSH.out).mono ?_
        rintro e w6 ⟨rfl, hb6⟩
        go_wp2_with fail
        go_ret
        exact ⟨by first | rfl | (simp; done), HB5.out.trans (hb6.mono HB5.out.size)⟩
end Go.Proofs.YtgdlkpfkaehebaaDoor.Dq
