/- The call of the law WalTells is proved: it answers true, whatever the lives and the epoch. -/
import Derived.Test.YtoafebndlldclaaDoorTellA
import Derived.Test.YtoafebndlldclaaDoorTellP
import Derived.Test.YtoafebndlldclaaDoorBytesP
namespace Go.Proofs.YtoafebndlldclaaDoor.Wl
open Go Go.RowKit Go.Shelf Dk Fr

structure Mid (W : World) (b g bm ep : Nat) (s m : Value) (off : Bool) (sure maybe : List Bs) (D : DS) (wc : World) : Prop where
  at_ : At W wc b g bm D
  ts : ∃ b1, Texts wc b1 s sure
  tm : ∃ b2, Texts wc b2 m maybe
  few : sure.length ≤ 10923
  few2 : maybe.length ≤ 20000
  st : (off = false ∧ (∃ L, Going ep 30 D L sure) ∧ maybe = sure) ∨ (off = true ∧ Dead ep 30 D sure maybe)
def MidV (W : World) (b g bm ep : Nat) (s m o : Value) (wc : World) : Prop := ∃ off sure maybe D, o = .bool off ∧ Mid W b g bm ep s m off sure maybe D wc
structure Inn (W : World) (b g bm lb ep : Nat) (s m : Value) (off : Bool) (sure maybe : List Bs) (D : DS) (L : LS) (wc : World) : Prop where
  log : LogOn W wc b g bm lb D L
  ts : ∃ b1, Texts wc b1 s sure
  tm : ∃ b2, Texts wc b2 m maybe
  few : sure.length ≤ 10923
  few2 : maybe.length ≤ 20000
  st : (off = false ∧ Going ep 30 D L sure ∧ maybe = sure) ∨ (off = true ∧ Dead ep 30 D sure maybe)
def InnV (W : World) (b g bm lb ep n : Nat) (s m o k : Value) (wc : World) : Prop := ∃ (q : Nat) (off : Bool) (sure maybe : List Bs) (D : DS) (L : LS), k = .int .i64 q ∧ q ≤ n ∧ o = .bool off ∧ Inn W b g bm lb ep s m off sure maybe D L wc
structure Out (W : World) (b g bm ep : Nat) (s : Value) (sure : List Bs) (D : DS) (wc : World) : Prop where
  at_ : At W wc b g bm D
  ts : ∃ b1, Texts wc b1 s sure
  rest : Rest ep 30 D sure
def OutV (W : World) (b g bm ep n : Nat) (s k : Value) (wc : World) : Prop := ∃ (j : Nat) (sure : List Bs) (D : DS), k = .int .i64 j ∧ j ≤ n ∧ Out W b g bm ep s sure D wc

structure OpIs (W : World) (b g bm ep : Nat) (sure : List Bs) (s s9 : Value) (p : Option Addr) (x : Int) (wc : World) : Prop where
  st : (∃ (D : DS) (L : LS) (lb b3 : Nat), p = some ⟨lb, 0, none⟩ ∧ x = 0 ∧ LogOn W wc b g bm lb D L ∧ Going ep 30 D L sure ∧ Texts wc b3 s9 sure) ∨
    (∃ D : DS, p = none ∧ x = 180 ∧ At W wc b g bm D ∧ Dead ep 30 D sure sure)
  ts : ∃ b1, Texts wc b1 s sure
  bel : Below W.heap.size W wc
  few : sure.length ≤ 10923
def OpV (W : World) (b g bm ep : Nat) (sure : List Bs) (s s8 s9 s10 : Value) (wc : World) : Prop := ∃ p x, s8 = .pointer p ∧ s10 = .int .i64 x ∧ OpIs W b g bm ep sure s s9 p x wc
theorem alloc_le (w : World) (o : Obj) : w.heap.size ≤ (w.alloc o).heap.size := ((Below.refl w.heap.size w).alloc (Nat.le_refl _) o).size
theorem going_few {ep n : Nat} {D : DS} {L : LS} {sure : List Bs} (h : Going ep n D L sure) : sure.length ≤ 10923 := by
  refine recs_few (n := 25) (by have := h.good.fit; rw [h.efr, h.eto] at this; exact this) (by omega)

theorem dead_few {ep : Nat} {D : DS} {sure maybe : List Bs} (h : Dead ep 30 D sure maybe) : sure.length ≤ 10923 := by
  obtain ⟨Dg, g1, g2, g3, _⟩ := h.from_
  have hl := bytesOf_length g1.ok 25 3 (by omega)
  have h1 := toldEnd_le ep (bytesOf Dg 3 25)
  have h2 := toldEnd_eq ep (bytesOf Dg 3 25)
  have h3 := szs_len (told ep (bytesOf Dg 3 25))
  rw [g3] at h2 h3
  omega

structure MidOn (ep : Nat) (off : Bool) (sure maybe : List Bs) (D : DS) (fs : List Int) (D4 : DS) (raw : List Bs) : Prop where
  on_ : on (Dk.cut D) fs = (D4, 0)
  again : OnAgain ep 30 D4 raw
  pre : prefB raw sure = true
  may : fs = [] → prefB maybe raw = true
  same : off = false → raw = sure ∧ maybe = sure
  off_ : D.off = off
theorem mid_on {W : World} {b g bm ep : Nat} {s m : Value} {off : Bool} {sure maybe : List Bs} {D : DS} {wc : World} (h : Mid W b g bm ep s m off sure maybe D wc) (hep : ep < 18446744073709551616) (fs : List Int) :
    ∃ D4 raw, MidOn ep off sure maybe D fs D4 raw := by
  rcases h.st with ⟨h1, ⟨L, h2⟩, h3⟩ | ⟨h1, h2⟩
  · obtain ⟨D4, k1, k2⟩ := going_on h2 fs
    exact ⟨D4, sure, k1, k2, prefB_self _, (fun _ => by rw [h3]; exact prefB_self _), fun _ => ⟨rfl, h3⟩, by rw [h1]; exact h2.good.calm.up⟩
  · obtain ⟨D4, raw, k1, k2, k3, k4⟩ := dead_on h2 (by omega) hep fs
    exact ⟨D4, raw, k1, k2, k3, k4, (fun e => by rw [h1] at e; cases e), by rw [h1]; exact h2.off⟩
theorem raw_few {ep : Nat} {D : DS} {raw : List Bs} (h : OnAgain ep 30 D raw) : raw.length ≤ 10923 := by
  have hl := bytesOf_length h.calm.ok 25 3 (by rw [h.len]; omega)
  have h1 := toldEnd_le ep (bytesOf D 3 25)
  have h2 := toldEnd_eq ep (bytesOf D 3 25)
  have h3 := szs_len (told ep (bytesOf D 3 25))
  rw [h.told] at h2 h3
  omega

set_option maxRecDepth 100000 in
set_option maxHeartbeats 8000000 in
theorem tells_near (v : Value) (l : List LifeTy.den) (ep : Nat) (W : World) (R : Rd.Reads W (.sl LifeTy) [v] l) (hl : l.length ≤ 10) (he : ep < 18446744073709551616) :
    Calls Tryd.prog 9 #[v, .int .u64 ep] W fun e w' => e = .returned (.bool true) ∧ Below W.heap.size W w' := by
  obtain ⟨a, cap, rfl, hlv⟩ := lives_at R
  have h2 : decide (10 < l.length) = false := decide_eq_false (by omega)
  have HSH := Lib.hid (fun w => shown19 w)
  have HLV := Lib.hid hlv
  have HE := Lib.hid he
  clear R hlv he
  go_enter Tryd.func9, Tryd.ntmps9
  go_wp2_with fail
  refine (HSH.out _).mono ?_
  rintro e w0 ⟨rfl, hb0⟩
  go_wp2_with fail
  refine (made 30 (by decide) (by decide) W w0 hb0).mono ?_
  rintro e w1 ⟨b, g, bm, rfl, h1, _⟩
  have H1 := Lib.hid h1
  clear h1 hb0
  go_wp2
  go_loopw [6, 7, 8, 9, 10, 11, 12, 13, 14, 15, 16, 17, 18, 19, 20] (fun s i _ _ _ _ _ _ _ _ _ _ _ _ _ wr => OutV W b g bm ep l.length s i wr) (fun _ i _ _ _ _ _ _ _ _ _ _ _ _ _ _ => l.length - (intOf i).toNat)
  case atStart => exact ⟨0, [], new 30, rfl, Nat.zero_le _, H1.out.alloc _, ⟨_, texts_empty w1⟩, rest_new (by omega) (by omega) HE.out⟩
  case round =>
    obtain ⟨j, sure, D, rfl, hj, hout⟩ := hrel
    obtain ⟨hat, ⟨bs, hts⟩, hrest⟩ := hout
    obtain ⟨sa, sc, rfl⟩ := hts.len
    have HAT := Lib.hid hat
    have HTS := Lib.hid hts
    have HREST := Lib.hid hrest
    clear hat hts hrest
    by_cases hlt : j < l.length
    · obtain ⟨bb, off, n, ta, tc, f, fa, fc, fs, rfl, hlife⟩ := HLV.out j hlt
      have bel := HAT.out.bel
      have q0 : wr.cell? ⟨bb, off + j * 3, none⟩ = some (.slice ta n tc) := (bel.cell (p := ⟨bb, off + j * 3, none⟩) hlife.lt).trans hlife.c0
      have q1 : wr.cell? ⟨bb, off + j * 3 + 1, none⟩ = some (.int .u8 f) := (bel.cell (p := ⟨bb, off + j * 3 + 1, none⟩) hlife.lt).trans hlife.c1
      have q2 : wr.cell? ⟨bb, off + j * 3 + 2, none⟩ = some (.slice fa fs.length fc) := (bel.cell (p := ⟨bb, off + j * 3 + 2, none⟩) hlife.lt).trans hlife.c2
      have HLF := Lib.hid hlife
      clear bel hlife
      have hji : (j : Int) < (l.length : Int) := by omega
      by_cases hbig : 20 < n ∨ 60 < fs.length
      · by_cases hb1 : 20 < n
        · have hb2 : decide (20 < n) = true := decide_eq_true hb1
          clear hbig
          go_wp2_with (go_at_call 12; refine (HSH.out _).mono ?_; rintro e' w5 ⟨rfl, hb5⟩)
          go_ret
          exact ⟨rfl, (HAT.out.below hb5).bel⟩
        · have hb2 : decide (20 < n) = false := decide_eq_false hb1
          have hb3 : 60 < fs.length := by omega
          have hb4 : decide (60 < fs.length) = true := decide_eq_true hb3
          clear hbig
          go_wp2_with (go_at_call 12; refine (HSH.out _).mono ?_; rintro e' w5 ⟨rfl, hb5⟩)
          go_ret
          exact ⟨rfl, (HAT.out.below hb5).bel⟩
      · have hb2 : n ≤ 20 := by omega
        have hb4 : fs.length ≤ 60 := by omega
        clear hbig
        have hf8 : f < 256 := by have := HLF.out.f8; omega
        have hsf := HAT.out.setFuse (f : Int) (by have := HLF.out.f8; omega)
        have HSF := Lib.hid hsf
        clear hsf
        go_wp2_with fail
        refine HSF.out.mono ?_
        rintro e w2 ⟨rfl, h2, k2⟩
        have H2 := Lib.hid h2
        have T2 := Lib.hid (HTS.out.kp k2 (fun _ _ _ hs => at_notText HAT.out hs))
        clear h2 k2
        have hk : ∀ c, w2.cell? ⟨bb, off + j * 3 + c, none⟩ = wr.cell? ⟨bb, off + j * 3 + c, none⟩ := by
          intro c
          rw [H2.out.bel.cell (p := ⟨bb, off + j * 3 + c, none⟩) HLF.out.lt, HAT.out.bel.cell (p := ⟨bb, off + j * 3 + c, none⟩) HLF.out.lt]
        have z0 : w2.cell? ⟨bb, off + j * 3, none⟩ = some (.slice ta n tc) := (hk 0).trans q0
        have z2 : w2.cell? ⟨bb, off + j * 3 + 2, none⟩ = some (.slice fa fs.length fc) := (hk 2).trans q2
        clear q0 q1 q2 hk
        go_upto_region 13 with fail
        go_cut [8, 9, 10] from 64 to 70 (fun s8 s9 s10 wc => OpV W b g bm ep sure (.slice sa sure.length sc) s8 s9 s10 wc)
        case first =>
          rcases life_open HREST.out (by omega) HE.out f (by omega) with ⟨D2, L, hop, hgo⟩ | ⟨D2, hop, hdead⟩
          · have C2 := Lib.hid (at_openLog H2.out hop)
            have HGO := Lib.hid hgo
            clear hop hgo
            go_wp2_with fail
            refine C2.out.mono ?_
            rintro e w3 ⟨lb, v3, rfl, h3, t3, k3, _⟩
            have H3 := Lib.hid h3
            have T3 := Lib.hid t3
            have S3 := Lib.hid (T2.out.kp k3 (fun _ _ _ hs => at_notText H2.out hs))
            clear C2 h3 t3 k3
            go_wp2
            go_meet
            exact ⟨_, _, rfl, rfl, .inl ⟨D2, L, lb, _, rfl, rfl, H3.out, HGO.out, T3.out⟩, ⟨_, S3.out⟩, H3.out.at_.bel, going_few HGO.out⟩
          · have hop2 := at_open H2.out 3 28 ep
            rw [hop] at hop2
            have C2 := Lib.hid hop2
            have HDE := Lib.hid hdead
            clear hop hop2 hdead
            go_wp2_with fail
            refine C2.out.mono ?_
            rintro e w3 ⟨p, v3, rfl, h3, t3, l3, k3⟩
            obtain rfl : p = none := l3
            have H3 := Lib.hid h3
            have S3 := Lib.hid (T2.out.kp k3 (fun _ _ _ hs => at_notText H2.out hs))
            clear C2 h3 t3 k3
            go_wp2
            go_meet
            exact ⟨_, _, rfl, rfl, .inr ⟨D2, rfl, rfl, H3.out, HDE.out⟩, ⟨_, S3.out⟩, H3.out.bel, dead_few HDE.out⟩
        case rest =>
          obtain ⟨p, x, rfl, rfl, hcut⟩ := hcut
          have HCUT := Lib.hid hcut
          clear hcut
          go_upto_if 75 with fail
          go_cut [6, 11, 12, 13, 14, 15, 16] from 76 to 140 (fun s6 s11 s12 s13 s14 s15 s16 wx => MidV W b g bm ep s6 s11 s12 wx)
          case first =>
            rcases HCUT.out.st with ⟨D2, L, lb, b3, rfl, rfl, hlog, hgo, ht3⟩ | ⟨D2, rfl, rfl, ha2, hdead⟩
            · obtain ⟨a3, c3, rfl⟩ := ht3.len
              obtain ⟨b1, hts1⟩ := HCUT.out.ts
              have H3 := Lib.hid hlog
              have HGO := Lib.hid hgo
              have S3 := Lib.hid hts1
              have hpre := prefix19 (S3.out.row) (ht3.row) (by have := HCUT.out.few; omega)
              rw [prefB_self] at hpre
              have HPRE := Lib.hid hpre
              have hx0 : ((0 : Int) == 180) = false := by decide
              clear hlog hgo hts1 hpre ht3
              go_wp2_with (go_at_call 18; refine HPRE.out.mono ?_; rintro e w4 ⟨rfl, hb4⟩)
              have H4 := Lib.hid (H3.out.below hb4)
              have S4 := Lib.hid (S3.out.below hb4 (Nat.le_refl _))
              have hln := len_log H4.out.log (by rw [HGO.out.good.many]; have := HCUT.out.few; omega)
              rw [HGO.out.good.many] at hln
              have HLN := Lib.hid hln
              clear hln hb4
              go_wp2_with (go_at_call 17; refine HLN.out.mono ?_; rintro e w5 ⟨rfl, rfl⟩)
              go_loopw [6, 11, 12, 13, 14, 15, 16] (fun s m o k _ _ _ wr => InnV W b g bm lb ep n s m o k wr) (fun _ _ _ k _ _ _ _ => n - (intOf k).toNat)
              case atStart => exact ⟨0, false, sure, sure, D2, L, rfl, Nat.zero_le _, rfl, H4.out, ⟨_, S4.out⟩, ⟨_, S4.out⟩, HCUT.out.few, by have := HCUT.out.few; omega, .inl ⟨rfl, HGO.out, rfl⟩⟩
              case round =>
                obtain ⟨q, off2, sure2, maybe2, D3, L3, rfl, hq, rfl, hin⟩ := hrel
                have HIN := Lib.hid hin
                clear hin
                obtain ⟨b1, hts⟩ := HIN.out.ts
                obtain ⟨b2, htm⟩ := HIN.out.tm
                obtain ⟨sa2, sc2, rfl⟩ := hts.len
                obtain ⟨ma2, mc2, rfl⟩ := htm.len
                have y0 : wr.cell? ⟨bb, off + j * 3, none⟩ = some (.slice ta n tc) := (HIN.out.log.at_.bel.cell (p := ⟨bb, off + j * 3, none⟩) HLF.out.lt).trans HLF.out.c0
                have S2 := Lib.hid hts
                have M2 := Lib.hid htm
                clear hts htm
                by_cases hqn : q < n
                · cases off2 with
                  | false =>
                    obtain ⟨tb, toff, va, vc, tl, rfl, htb, htc, htr, htsm⟩ := HLF.out.txt q hqn
                    have y1 : wr.cell? ⟨tb, toff + q, none⟩ = some (.slice va tl.length vc) := (HIN.out.log.at_.bel.cell (p := ⟨tb, toff + q, none⟩) htb).trans htc
                    have HC := Lib.hid (cutA_any (HIN.out.log.row htr) htsm)
                    have HGO2 : Hid (Going ep 30 D3 L3 sure2) := by
                      rcases HIN.out.st with ⟨_, h, _⟩ | ⟨h, _⟩
                      · exact h
                      · cases h
                    clear htc htr htsm
                    go_wp2_with fail
                    refine HC.out.mono ?_
                    rintro e w3 ⟨v3, rfl, tx, hb3⟩
                    obtain ⟨xa, xc, rfl⟩ := tx.len
                    have H3 := Lib.hid (HIN.out.log.below hb3)
                    have S3 := Lib.hid (S2.out.below hb3 (Nat.le_refl _))
                    have M3 := Lib.hid (M2.out.below hb3 (Nat.le_refl _))
                    have TX3 := Lib.hid tx
                    clear HC tx hb3
                    obtain ⟨D4, L4, x4, hR, hcase⟩ := going_append HGO2.out (texts := cutL tl) (fun t ht => by have := cut_small tl t ht; omega)
                    have HAP := Lib.hid (H3.out.append HGO2.out.good.sane _ _ TX3.out.row (by have := cut_len tl; omega) hR)
                    clear hR
                    rcases hcase with ⟨rfl, hgo4⟩ | ⟨rfl, rfl, rfl⟩ | ⟨rfl, hdead4⟩
                    · have HG4 := Lib.hid hgo4
                      clear hgo4
                      go_wp2_with fail
                      refine HAP.out.mono ?_
                      rintro e w4 ⟨rfl, h4, k4⟩
                      have H4 := Lib.hid h4
                      have S4 := Lib.hid (S3.out.kp k4 (fun _ _ _ hs => H3.out.notText hs))
                      have M4 := Lib.hid (M3.out.kp k4 (fun _ _ _ hs => H3.out.notText hs))
                      have X4 := Lib.hid (TX3.out.kp k4 (fun _ _ _ hs => H3.out.notText hs))
                      clear h4 k4
                      go_wp2_with (first
                        | (refine wpList_append_texts rfl _ _ rfl w4.heap.size _ [] rfl (texts_empty w4) b1 _ sure2 rfl (S4.out.below ((Below.refl _ _).alloc (Nat.le_refl _) _) (Nat.le_refl _)) (by have := HIN.out.few; rw [List.length_nil]; omega) (alloc_le _ _) ?_
                           intro v5 w5 t5 g5
                           have hb5 : Hid (Below w4.heap.size w4 w5) := ((Below.refl _ _).alloc (Nat.le_refl _) _).grown g5 (alloc_le _ _) (fun k e => ((texts_empty w4).own_text e).1)
                           have T5 := Lib.hid t5)
                        | (refine wpList_append_texts rfl _ _ rfl w4.heap.size _ ([] ++ sure2) rfl T5.out wr.heap.size _ (cutL tl) rfl (X4.out.below hb5.out (Nat.le_refl _)) (by have := HIN.out.few; have := cut_len tl; rw [List.nil_append]; omega) hb5.out.size ?_
                           intro v6 w6 t6 g6
                           have hb6 : Hid (Below w4.heap.size w4 w6) := hb5.out.grown g6 hb5.out.size (fun k e => (T5.out.own_text e).1)
                           rw [List.nil_append] at t6
                           have T6 := Lib.hid t6))
                      exact ⟨⟨q + 1, false, sure2 ++ cutL tl, sure2 ++ cutL tl, D4, L4, rfl, hqn, rfl, H4.out.below hb6.out, ⟨_, T6.out⟩, ⟨_, T6.out⟩, going_few HG4.out, by have := going_few HG4.out; omega, .inl ⟨rfl, HG4.out, rfl⟩⟩, by simp [intOf]; omega⟩
                    · go_wp2_with fail
                      refine HAP.out.mono ?_
                      rintro e w4 ⟨rfl, h4, k4⟩
                      have H4 := Lib.hid h4
                      have S4 := Lib.hid (S3.out.kp k4 (fun _ _ _ hs => H3.out.notText hs))
                      have M4 := Lib.hid (M3.out.kp k4 (fun _ _ _ hs => H3.out.notText hs))
                      have X4 := Lib.hid (TX3.out.kp k4 (fun _ _ _ hs => H3.out.notText hs))
                      clear h4 k4
                      go_wp2_with (first
                        | (refine wpList_append_texts rfl _ _ rfl w4.heap.size _ [] rfl (texts_empty w4) b1 _ sure2 rfl (S4.out.below ((Below.refl _ _).alloc (Nat.le_refl _) _) (Nat.le_refl _)) (by have := HIN.out.few; rw [List.length_nil]; omega) (alloc_le _ _) ?_
                           intro v5 w5 t5 g5
                           have hb5 : Hid (Below w4.heap.size w4 w5) := ((Below.refl _ _).alloc (Nat.le_refl _) _).grown g5 (alloc_le _ _) (fun k e => ((texts_empty w4).own_text e).1)
                           have T5 := Lib.hid t5)
                        | (refine wpList_append_texts rfl _ _ rfl w4.heap.size _ ([] ++ sure2) rfl T5.out wr.heap.size _ (cutL tl) rfl (X4.out.below hb5.out (Nat.le_refl _)) (by have := HIN.out.few; have := cut_len tl; rw [List.nil_append]; omega) hb5.out.size ?_
                           intro v6 w6 t6 g6
                           have hb6 : Hid (Below w4.heap.size w4 w6) := hb5.out.grown g6 hb5.out.size (fun k e => (T5.out.own_text e).1)
                           rw [List.nil_append] at t6
                           have T6 := Lib.hid t6))
                      exact ⟨⟨q + 1, false, sure2, maybe2, _, _, rfl, hqn, rfl, H4.out.below hb6.out, ⟨_, S4.out.below hb6.out (Nat.le_refl _)⟩, ⟨_, M4.out.below hb6.out (Nat.le_refl _)⟩, HIN.out.few, HIN.out.few2, HIN.out.st⟩, by simp [intOf]; omega⟩
                    · have HG4 := Lib.hid hdead4
                      clear hdead4
                      go_wp2_with fail
                      refine HAP.out.mono ?_
                      rintro e w4 ⟨rfl, h4, k4⟩
                      have H4 := Lib.hid h4
                      have S4 := Lib.hid (S3.out.kp k4 (fun _ _ _ hs => H3.out.notText hs))
                      have M4 := Lib.hid (M3.out.kp k4 (fun _ _ _ hs => H3.out.notText hs))
                      have X4 := Lib.hid (TX3.out.kp k4 (fun _ _ _ hs => H3.out.notText hs))
                      clear h4 k4
                      go_wp2_with (first
                        | (refine wpList_append_texts rfl _ _ rfl w4.heap.size _ [] rfl (texts_empty w4) b1 _ sure2 rfl (S4.out.below ((Below.refl _ _).alloc (Nat.le_refl _) _) (Nat.le_refl _)) (by have := HIN.out.few; rw [List.length_nil]; omega) (alloc_le _ _) ?_
                           intro v5 w5 t5 g5
                           have hb5 : Hid (Below w4.heap.size w4 w5) := ((Below.refl _ _).alloc (Nat.le_refl _) _).grown g5 (alloc_le _ _) (fun k e => ((texts_empty w4).own_text e).1)
                           have T5 := Lib.hid t5)
                        | (refine wpList_append_texts rfl _ _ rfl w4.heap.size _ ([] ++ sure2) rfl T5.out wr.heap.size _ (cutL tl) rfl (X4.out.below hb5.out (Nat.le_refl _)) (by have := HIN.out.few; have := cut_len tl; rw [List.nil_append]; omega) hb5.out.size ?_
                           intro v6 w6 t6 g6
                           have hb6 : Hid (Below w4.heap.size w4 w6) := hb5.out.grown g6 hb5.out.size (fun k e => (T5.out.own_text e).1)
                           rw [List.nil_append] at t6
                           have T6 := Lib.hid t6))
                      exact ⟨⟨q + 1, true, sure2, sure2 ++ cutL tl, D4, L4, rfl, hqn, rfl, H4.out.below hb6.out, ⟨_, S4.out.below hb6.out (Nat.le_refl _)⟩, ⟨_, T6.out⟩, HIN.out.few, by have := HIN.out.few; have := cut_len tl; rw [List.length_append]; omega, .inr ⟨rfl, HG4.out⟩⟩, by simp [intOf]; omega⟩
                  | true =>
                    go_wp2
                    go_meet
                    refine ⟨true, sure2, maybe2, D3, rfl, HIN.out.log.at_, ⟨_, S2.out⟩, ⟨_, M2.out⟩, HIN.out.few, HIN.out.few2, ?_⟩
                    rcases HIN.out.st with ⟨h, hgo, hm⟩ | ⟨h, hd⟩
                    · cases h
                    · exact .inr ⟨h, hd⟩
                · obtain rfl : q = n := by omega
                  go_wp2
                  go_meet
                  refine ⟨off2, sure2, maybe2, D3, rfl, HIN.out.log.at_, ⟨_, S2.out⟩, ⟨_, M2.out⟩, HIN.out.few, HIN.out.few2, ?_⟩
                  rcases HIN.out.st with ⟨h, hgo, hm⟩ | ⟨h, hd⟩
                  · exact .inl ⟨h, ⟨L3, hgo⟩, hm⟩
                  · exact .inr ⟨h, hd⟩
            · have H3 := Lib.hid ha2
              have HDE := Lib.hid hdead
              clear ha2 hdead
              go_wp2
              go_meet
              obtain ⟨b1, hts1⟩ := HCUT.out.ts
              exact ⟨true, sure, sure, D2, rfl, H3.out, ⟨_, hts1⟩, ⟨_, hts1⟩, HCUT.out.few, by have := HCUT.out.few; omega, .inr ⟨rfl, HDE.out⟩⟩
          case rest =>
            obtain ⟨off2, sure2, maybe2, D3, rfl, hmid⟩ := hcut
            have HMID := Lib.hid hmid
            clear hmid
            obtain ⟨b1, hts⟩ := HMID.out.ts
            obtain ⟨b2, htm⟩ := HMID.out.tm
            obtain ⟨sa2, sc2, rfl⟩ := hts.len
            obtain ⟨ma2, mc2, rfl⟩ := htm.len
            have S2 := Lib.hid hts
            have M2 := Lib.hid htm
            obtain ⟨D4, raw, hmo⟩ := mid_on HMID.out HE.out fs
            have HMO := Lib.hid hmo
            clear hts htm hmo
            cases off2 with
            | false =>
              obtain ⟨hsame1, hsame2⟩ := HMO.out.same rfl
              subst hsame1 hsame2
              have hB := prefB_self maybe2
              have HCU := Lib.hid HMID.out.at_.cut
              go_wp2_with fail
              refine HCU.out.mono ?_
              rintro e w4 ⟨rfl, h4, k4⟩
              have S4 := Lib.hid (S2.out.kp k4 (fun _ _ _ hs => at_notText HMID.out.at_ hs))
              have M4 := Lib.hid (M2.out.kp k4 (fun _ _ _ hs => at_notText HMID.out.at_ hs))
              have y2 : w4.cell? ⟨bb, off + j * 3 + 2, none⟩ = some (.slice fa fs.length fc) := (h4.bel.cell (p := ⟨bb, off + j * 3 + 2, none⟩) HLF.out.lt).trans HLF.out.c2
              have hon := h4.on (.slice fa fs.length fc) fs (fates_row HLF.out.row h4.bel (fun k hk => h4.foot hk) (by omega) HLF.out.fi)
              rw [HMO.out.on_] at hon
              have H4 := Lib.hid h4
              have HON := Lib.hid hon
              clear HCU h4 k4 hon
              go_wp2_with fail
              refine HON.out.mono ?_
              rintro e w5 ⟨rfl, h5, k5⟩
              have S5 := Lib.hid (S4.out.kp k5 (fun _ _ _ hs => at_notText H4.out hs))
              have M5 := Lib.hid (M4.out.kp k5 (fun _ _ _ hs => at_notText H4.out hs))
              have H5 := Lib.hid h5
              have hby := bytes_call h5.disk HMO.out.again.calm.up 3 28 (by omega) (by rw [HMO.out.again.len]; omega)
              have hbl : (bytesOf D4 3 25).length ≤ 100000 := by rw [bytesOf_length HMO.out.again.calm.ok 25 3 (by rw [HMO.out.again.len]; omega)]; omega
              have hrc := fun w => records19 ep (bytesOf D4 3 25) hbl w
              rw [HMO.out.again.told] at hrc
              have HBY := Lib.hid hby
              have HRC := Lib.hid hrc
              clear HON h5 k5 hby hrc hbl
              go_wp2_with fail
              refine HBY.out.mono ?_
              rintro e w6 ⟨rfl, hb6⟩
              have HB6 := Lib.hid hb6
              clear HBY hb6
              go_wp2_with fail
              refine (HRC.out _).mono ?_
              rintro e w7 ⟨v7, rfl, t7, hb7⟩
              obtain ⟨ra, rc, rfl⟩ := t7.len
              have hb57 : Below w5.heap.size w5 w7 := HB6.out.trans (hb7.mono HB6.out.size)
              have H7 := Lib.hid (H5.out.below hb57)
              have R7 := Lib.hid t7
              have S7 := Lib.hid (S5.out.below hb57 (Nat.le_refl _))
              have M7 := Lib.hid (M5.out.below hb57 (Nat.le_refl _))
              obtain ⟨D6, L6, hop6, hre6⟩ := life_reopen HMO.out.again (by omega) HE.out
              have hrest6 := Lib.hid hre6
              have HOP := Lib.hid (at_openLog H7.out hop6)
              clear HRC HB6 t7 hb7 hb57 hop6 hre6
              go_wp2_with fail
              refine HOP.out.mono ?_
              rintro e w8 ⟨lb8, v8, rfl, h8, t8, k8, _⟩
              obtain ⟨na, nc, rfl⟩ := t8.len
              have H8 := Lib.hid h8.at_
              have N8 := Lib.hid t8
              have R8 := Lib.hid (R7.out.kp k8 (fun _ _ _ hs => at_notText H7.out hs))
              have S8 := Lib.hid (S7.out.kp k8 (fun _ _ _ hs => at_notText H7.out hs))
              have M8 := Lib.hid (M7.out.kp k8 (fun _ _ _ hs => at_notText H7.out hs))
              clear HOP h8 t8 k8
              have p1 := fun w (hb : Below w8.heap.size w8 w) => prefix19 (R8.out.row.kept hb) (N8.out.row.kept hb) (by have := raw_few HMO.out.again; omega)
              have p2 := fun w (hb : Below w8.heap.size w8 w) => prefix19 (N8.out.row.kept hb) (S8.out.row.kept hb) (by have := raw_few HMO.out.again; omega)
              have p3 := fun w (hb : Below w8.heap.size w8 w) => prefix19 (M8.out.row.kept hb) (N8.out.row.kept hb) (by have := HMID.out.few2; omega)
              rw [prefB_self] at p1
              rw [HMO.out.pre] at p2
              rw [hB] at p3
              have P1 := Lib.hid p1
              have P2 := Lib.hid p2
              have P3 := Lib.hid p3
              clear p1 p2 p3
              go_wp2_with fail
              refine (P1.out _ (Below.refl _ _)).mono ?_
              rintro e w9 ⟨rfl, hb9⟩
              have HB9 := Lib.hid hb9
              clear hb9
              go_wp2_with fail
              refine (P2.out _ HB9.out).mono ?_
              rintro e w10 ⟨rfl, hc10⟩
              have HB10 := Lib.hid (HB9.out.trans (hc10.mono HB9.out.size))
              clear hc10
              go_wp2_with fail
              refine (P3.out _ HB10.out).mono ?_
              rintro e w11 ⟨rfl, hc11⟩
              have hb11 := Lib.hid (HB10.out.trans (hc11.mono HB10.out.size))
              clear hc11
              go_wp2
              exact ⟨⟨j + 1, maybe2, D6, rfl, hlt, H8.out.below hb11.out, ⟨_, N8.out.below hb11.out (Nat.le_refl _)⟩, hrest6.out⟩, by simp [intOf]; omega⟩
            | true =>
              by_cases hB : prefB maybe2 raw = true
              · have HUP := Lib.hid (HMID.out.at_.up)
                rw [HMO.out.off_] at HUP
                go_wp2_with (go_at_call 39; refine HUP.out.mono ?_; rintro e wu ⟨rfl, rfl⟩)
                have HCU := Lib.hid HMID.out.at_.cut
                go_wp2_with fail
                refine HCU.out.mono ?_
                rintro e w4 ⟨rfl, h4, k4⟩
                have S4 := Lib.hid (S2.out.kp k4 (fun _ _ _ hs => at_notText HMID.out.at_ hs))
                have M4 := Lib.hid (M2.out.kp k4 (fun _ _ _ hs => at_notText HMID.out.at_ hs))
                have y2 : w4.cell? ⟨bb, off + j * 3 + 2, none⟩ = some (.slice fa fs.length fc) := (h4.bel.cell (p := ⟨bb, off + j * 3 + 2, none⟩) HLF.out.lt).trans HLF.out.c2
                have hon := h4.on (.slice fa fs.length fc) fs (fates_row HLF.out.row h4.bel (fun k hk => h4.foot hk) (by omega) HLF.out.fi)
                rw [HMO.out.on_] at hon
                have H4 := Lib.hid h4
                have HON := Lib.hid hon
                clear HCU h4 k4 hon
                go_wp2_with fail
                refine HON.out.mono ?_
                rintro e w5 ⟨rfl, h5, k5⟩
                have S5 := Lib.hid (S4.out.kp k5 (fun _ _ _ hs => at_notText H4.out hs))
                have M5 := Lib.hid (M4.out.kp k5 (fun _ _ _ hs => at_notText H4.out hs))
                have H5 := Lib.hid h5
                have hby := bytes_call h5.disk HMO.out.again.calm.up 3 28 (by omega) (by rw [HMO.out.again.len]; omega)
                have hbl : (bytesOf D4 3 25).length ≤ 100000 := by rw [bytesOf_length HMO.out.again.calm.ok 25 3 (by rw [HMO.out.again.len]; omega)]; omega
                have hrc := fun w => records19 ep (bytesOf D4 3 25) hbl w
                rw [HMO.out.again.told] at hrc
                have HBY := Lib.hid hby
                have HRC := Lib.hid hrc
                clear HON h5 k5 hby hrc hbl
                go_wp2_with fail
                refine HBY.out.mono ?_
                rintro e w6 ⟨rfl, hb6⟩
                have HB6 := Lib.hid hb6
                clear HBY hb6
                go_wp2_with fail
                refine (HRC.out _).mono ?_
                rintro e w7 ⟨v7, rfl, t7, hb7⟩
                obtain ⟨ra, rc, rfl⟩ := t7.len
                have hb57 : Below w5.heap.size w5 w7 := HB6.out.trans (hb7.mono HB6.out.size)
                have H7 := Lib.hid (H5.out.below hb57)
                have R7 := Lib.hid t7
                have S7 := Lib.hid (S5.out.below hb57 (Nat.le_refl _))
                have M7 := Lib.hid (M5.out.below hb57 (Nat.le_refl _))
                obtain ⟨D6, L6, hop6, hre6⟩ := life_reopen HMO.out.again (by omega) HE.out
                have hrest6 := Lib.hid hre6
                have HOP := Lib.hid (at_openLog H7.out hop6)
                clear HRC HB6 t7 hb7 hb57 hop6 hre6
                go_wp2_with fail
                refine HOP.out.mono ?_
                rintro e w8 ⟨lb8, v8, rfl, h8, t8, k8, _⟩
                obtain ⟨na, nc, rfl⟩ := t8.len
                have H8 := Lib.hid h8.at_
                have N8 := Lib.hid t8
                have R8 := Lib.hid (R7.out.kp k8 (fun _ _ _ hs => at_notText H7.out hs))
                have S8 := Lib.hid (S7.out.kp k8 (fun _ _ _ hs => at_notText H7.out hs))
                have M8 := Lib.hid (M7.out.kp k8 (fun _ _ _ hs => at_notText H7.out hs))
                clear HOP h8 t8 k8
                have p1 := fun w (hb : Below w8.heap.size w8 w) => prefix19 (R8.out.row.kept hb) (N8.out.row.kept hb) (by have := raw_few HMO.out.again; omega)
                have p2 := fun w (hb : Below w8.heap.size w8 w) => prefix19 (N8.out.row.kept hb) (S8.out.row.kept hb) (by have := raw_few HMO.out.again; omega)
                have p3 := fun w (hb : Below w8.heap.size w8 w) => prefix19 (M8.out.row.kept hb) (N8.out.row.kept hb) (by have := HMID.out.few2; omega)
                rw [prefB_self] at p1
                rw [HMO.out.pre] at p2
                rw [hB] at p3
                have P1 := Lib.hid p1
                have P2 := Lib.hid p2
                have P3 := Lib.hid p3
                clear p1 p2 p3
                go_wp2_with fail
                refine (P1.out _ (Below.refl _ _)).mono ?_
                rintro e w9 ⟨rfl, hb9⟩
                have HB9 := Lib.hid hb9
                clear hb9
                go_wp2_with fail
                refine (P2.out _ HB9.out).mono ?_
                rintro e w10 ⟨rfl, hc10⟩
                have HB10 := Lib.hid (HB9.out.trans (hc10.mono HB9.out.size))
                clear hc10
                go_wp2_with fail
                refine (P3.out _ HB10.out).mono ?_
                rintro e w11 ⟨rfl, hc11⟩
                have hb11 := Lib.hid (HB10.out.trans (hc11.mono HB10.out.size))
                clear hc11
                go_wp2
                exact ⟨⟨j + 1, raw, D6, rfl, hlt, H8.out.below hb11.out, ⟨_, N8.out.below hb11.out (Nat.le_refl _)⟩, hrest6.out⟩, by simp [intOf]; omega⟩
              · have hB : prefB maybe2 raw = false := by simpa using hB
                have hfs : 0 < fs.length := List.length_pos_iff.2 (fun e => by have := HMO.out.may e; rw [hB] at this; cases this)
                have HUP := Lib.hid (HMID.out.at_.up)
                rw [HMO.out.off_] at HUP
                go_wp2_with (go_at_call 39; refine HUP.out.mono ?_; rintro e wu ⟨rfl, rfl⟩)
                have HCU := Lib.hid HMID.out.at_.cut
                go_wp2_with fail
                refine HCU.out.mono ?_
                rintro e w4 ⟨rfl, h4, k4⟩
                have S4 := Lib.hid (S2.out.kp k4 (fun _ _ _ hs => at_notText HMID.out.at_ hs))
                have M4 := Lib.hid (M2.out.kp k4 (fun _ _ _ hs => at_notText HMID.out.at_ hs))
                have y2 : w4.cell? ⟨bb, off + j * 3 + 2, none⟩ = some (.slice fa fs.length fc) := (h4.bel.cell (p := ⟨bb, off + j * 3 + 2, none⟩) HLF.out.lt).trans HLF.out.c2
                have hon := h4.on (.slice fa fs.length fc) fs (fates_row HLF.out.row h4.bel (fun k hk => h4.foot hk) (by omega) HLF.out.fi)
                rw [HMO.out.on_] at hon
                have H4 := Lib.hid h4
                have HON := Lib.hid hon
                clear HCU h4 k4 hon
                go_wp2_with fail
                refine HON.out.mono ?_
                rintro e w5 ⟨rfl, h5, k5⟩
                have S5 := Lib.hid (S4.out.kp k5 (fun _ _ _ hs => at_notText H4.out hs))
                have M5 := Lib.hid (M4.out.kp k5 (fun _ _ _ hs => at_notText H4.out hs))
                have H5 := Lib.hid h5
                have hby := bytes_call h5.disk HMO.out.again.calm.up 3 28 (by omega) (by rw [HMO.out.again.len]; omega)
                have hbl : (bytesOf D4 3 25).length ≤ 100000 := by rw [bytesOf_length HMO.out.again.calm.ok 25 3 (by rw [HMO.out.again.len]; omega)]; omega
                have hrc := fun w => records19 ep (bytesOf D4 3 25) hbl w
                rw [HMO.out.again.told] at hrc
                have HBY := Lib.hid hby
                have HRC := Lib.hid hrc
                clear HON h5 k5 hby hrc hbl
                go_wp2_with fail
                refine HBY.out.mono ?_
                rintro e w6 ⟨rfl, hb6⟩
                have HB6 := Lib.hid hb6
                clear HBY hb6
                go_wp2_with fail
                refine (HRC.out _).mono ?_
                rintro e w7 ⟨v7, rfl, t7, hb7⟩
                obtain ⟨ra, rc, rfl⟩ := t7.len
                have hb57 : Below w5.heap.size w5 w7 := HB6.out.trans (hb7.mono HB6.out.size)
                have H7 := Lib.hid (H5.out.below hb57)
                have R7 := Lib.hid t7
                have S7 := Lib.hid (S5.out.below hb57 (Nat.le_refl _))
                have M7 := Lib.hid (M5.out.below hb57 (Nat.le_refl _))
                obtain ⟨D6, L6, hop6, hre6⟩ := life_reopen HMO.out.again (by omega) HE.out
                have hrest6 := Lib.hid hre6
                have HOP := Lib.hid (at_openLog H7.out hop6)
                clear HRC HB6 t7 hb7 hb57 hop6 hre6
                go_wp2_with fail
                refine HOP.out.mono ?_
                rintro e w8 ⟨lb8, v8, rfl, h8, t8, k8, _⟩
                obtain ⟨na, nc, rfl⟩ := t8.len
                have H8 := Lib.hid h8.at_
                have N8 := Lib.hid t8
                have R8 := Lib.hid (R7.out.kp k8 (fun _ _ _ hs => at_notText H7.out hs))
                have S8 := Lib.hid (S7.out.kp k8 (fun _ _ _ hs => at_notText H7.out hs))
                have M8 := Lib.hid (M7.out.kp k8 (fun _ _ _ hs => at_notText H7.out hs))
                clear HOP h8 t8 k8
                have p1 := fun w (hb : Below w8.heap.size w8 w) => prefix19 (R8.out.row.kept hb) (N8.out.row.kept hb) (by have := raw_few HMO.out.again; omega)
                have p2 := fun w (hb : Below w8.heap.size w8 w) => prefix19 (N8.out.row.kept hb) (S8.out.row.kept hb) (by have := raw_few HMO.out.again; omega)
                have p3 := fun w (hb : Below w8.heap.size w8 w) => prefix19 (M8.out.row.kept hb) (N8.out.row.kept hb) (by have := HMID.out.few2; omega)
                rw [prefB_self] at p1
                rw [HMO.out.pre] at p2
                rw [hB] at p3
                have P1 := Lib.hid p1
                have P2 := Lib.hid p2
                have P3 := Lib.hid p3
                clear p1 p2 p3
                go_wp2_with fail
                refine (P1.out _ (Below.refl _ _)).mono ?_
                rintro e w9 ⟨rfl, hb9⟩
                have HB9 := Lib.hid hb9
                clear hb9
                go_wp2_with fail
                refine (P2.out _ HB9.out).mono ?_
                rintro e w10 ⟨rfl, hc10⟩
                have HB10 := Lib.hid (HB9.out.trans (hc10.mono HB9.out.size))
                clear hc10
                go_wp2_with fail
                refine (P3.out _ HB10.out).mono ?_
                rintro e w11 ⟨rfl, hc11⟩
                have hb11 := Lib.hid (HB10.out.trans (hc11.mono HB10.out.size))
                clear hc11
                have y11 : w11.cell? ⟨bb, off + j * 3 + 2, none⟩ = some (.slice fa fs.length fc) := ((H8.out.below hb11.out).bel.cell (p := ⟨bb, off + j * 3 + 2, none⟩) HLF.out.lt).trans HLF.out.c2
                go_wp2
                go_ret
                exact ⟨rfl, (H8.out.below hb11.out).bel⟩
    · have hje : j = l.length := by omega
      have hnl : ¬ (j : Int) < (l.length : Int) := by omega
      clear hlt
      go_wp2
      go_ret
      exact ⟨rfl, HAT.out.bel⟩

set_option maxRecDepth 100000 in
set_option maxHeartbeats 1000000 in
theorem tells_far (a : Option Addr) (n cap : Nat) (ep : Int) (W : World) (h : 10 < n) :
    Calls Tryd.prog 9 #[.slice a n cap, .int .u64 ep] W fun e w' => e = .returned (.bool true) ∧ Below W.heap.size W w' := by
  have h2 : decide (10 < n) = true := decide_eq_true h
  have HSH := Lib.hid (fun w => shown19 w)
  go_enter Tryd.func9, Tryd.ntmps9
  go_wp2_with (go_at_call 12; refine (HSH.out _).mono ?_; rintro e w1' ⟨rfl, hb⟩)
  go_ret
  exact ⟨rfl, hb⟩

theorem tells_walk (v : Value) (l : List LifeTy.den) (a2 : Int) (W : World) (R : Rd.Reads W (.sl LifeTy) [v] l) (w2 : (Lit.int .u64 a2).wf = true) :
    Calls Tryd.prog 9 #[v, .int .u64 a2] W fun e w' => e = .returned (.bool true) ∧ Below W.heap.size W w' := by
  obtain ⟨b0, b1⟩ := bounds_u64 w2
  obtain ⟨ep, rfl⟩ := Int.eq_ofNat_of_zero_le b0
  by_cases hl : l.length ≤ 10
  · exact tells_near v l ep W R hl (by omega)
  · obtain ⟨a, cap, h1, _⟩ := R
    rw [(List.cons.inj h1).1]
    exact tells_far a l.length cap ep W (by omega)
end Go.Proofs.YtoafebndlldclaaDoor.Wl
