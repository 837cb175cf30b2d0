/- The call of a log's Append is proved: it does what appendL does. -/
import Derived.Test.YtoafebndlldclaaDoorLogW
import Derived.StillTailTactics
import Derived.Deep.RegionWith
import Derived.Deep.QuietTactic
import Derived.BigQuiet
import Derived.BigRegion
namespace Go.Proofs.YtoafebndlldclaaDoor.Wl
open Go Go.RowKit Go.Shelf Dk

variable {w : World} {lb b g bm : Nat} {L : LS} {D : DS}

/-- a slice of texts -/
abbrev RowT (W : World) (v : Value) (l : List Bs) : Prop := Rd.RowOf W (fun t : Bs => Value.string ⟨t.toArray⟩) v l
def AppPost (w : World) (b g bm lb : Nat) (R : DS × LS × Int) (e : Ending) (w' : World) : Prop :=
  e = .returned (.int .i64 R.2.2) ∧ IsDisk w' b g bm R.1 ∧ IsLog w' lb b R.2.1 ∧ Kp (fun k => Foot b g bm k ∨ k = lb) w w'

theorem enc_len_le (ep : Nat) (l : List Bs) (i k : Nat) (h : ∀ t ∈ l.take k, t.length ≤ 8192) (hk : k ≤ l.length) : (Fr.enc ep i (l.take k)).length ≤ 8216 * k := by
  rw [Fr.enc_length]
  have : ∀ m : List Bs, (∀ t ∈ m, t.length ≤ 8192) → Fr.szs m ≤ 8216 * m.length := by
    intro m
    induction m with
    | nil => intro _; simp [Fr.szs]
    | cons t m ih =>
      intro hm
      have h1 := ih (fun t ht => hm t (by simp [ht]))
      have h2 := hm t (by simp)
      simp only [Fr.szs, List.length_cons]
      omega
  have h1 := this (l.take k) h
  rw [List.length_take, Nat.min_eq_left hk] at h1
  exact h1
theorem enc_snoc (ep : Nat) (l : List Bs) (i k : Nat) (t : Bs) (hx : l[k]? = some t) : Fr.enc ep i (l.take (k + 1)) = Fr.enc ep i (l.take k) ++ Fr.putL (i + k + 1) ep t := by
  have hk : k < l.length := (List.getElem?_eq_some_iff.1 hx).1
  rw [List.take_add_one, hx, Fr.enc_append, List.length_take, Nat.min_eq_left (by omega)]
  simp [Fr.enc]

/-- between two sectors that are written -/
structure WrAt (w : World) (b g bm lb a0 : Nat) (L : LS) (D : DS) (S : Bs) (j : Nat) (Dj : DS) (wr : World) : Prop where
  le : 64 * j ≤ S.length
  disk : IsDisk wr b g bm Dj
  len : Dj.olds.length = D.olds.length
  go : fullsGo (S.length / 64 - j) Dj (a0 + j) (S.drop (64 * j)) = fullsGo (S.length / 64) D a0 S
  log : IsLog wr lb b L
  kp : Kp (fun k => Foot b g bm k ∨ k = lb) w wr

theorem over_same (h : L.over = false) : { L with over := false } = L := by cases L; simp only at h; subst h; rfl

set_option maxRecDepth 100000 in
set_option maxHeartbeats 8000000 in
theorem append_aux (h : IsDisk w b g bm D) (hl : IsLog w lb b L) (hnf : ¬ Foot b g bm lb) (hs : Sane D.olds.length L) (v : Value) (texts : List Bs) (ht : RowT w v texts) (hn : texts.length ≤ 1000) (R : DS × LS × Int) (hR : appendL D L texts = R) :
    Calls Tryd.prog 14 #[.pointer (some ⟨lb, 0, none⟩), v] w (AppPost w b g bm lb R) := by
  obtain ⟨av, cv, rfl⟩ := ht.len
  have hlow : ∀ k, Foot b g bm k → k < w.heap.size := fun k hk => h.lt hk
  have hlt := hl.lt
  have c6 : w.cell? ⟨lb, 6, none⟩ = some (.string ⟨L.last.toArray⟩) := hl.cell 6
  obtain ⟨ls, hls, hlz⟩ : ∃ ls : ByteArray, ls = ⟨L.last.toArray⟩ ∧ ls.size = L.last.length := ⟨_, rfl, by show L.last.toArray.size = _; simp⟩
  have hl64 : ls.size ≤ 64 := by rw [hlz, hs.last]; omega
  have hcl : Lib.strCells ls = Lib.byteCells L.last := by rw [hls]; simp [Lib.strCells, Lib.byteCells]
  rw [← hls] at c6
  have HWS := Lib.hid (fun (W : World) (bs : List Value) (s : ByteArray) => writeString_any w.heap.size w.heap.size bs s W)
  have HLOW := Lib.hid hlow
  have HH := Lib.hid h
  have HL := Lib.hid hl
  have HNF := Lib.hid hnf
  have HS := Lib.hid hs
  have HT := Lib.hid ht
  have HR := Lib.hid hR
  have HLS := Lib.hid hls
  have HLZ := Lib.hid hlz
  have HCL := Lib.hid hcl
  clear h hl hnf hs ht hR hlow hls hlz hcl
  go_enter Tryd.func14, Tryd.ntmps14
  go_wp2_with fail
  refine (HWS.out _ [] ls (.inl ⟨Nat.le_refl _, .slice none 0 0, new_alloc _ _ rfl, World.ownsRowF_nil _ _ _ _, by simp [Value.ownBlock]⟩) (by simp; omega) (by simp)).mono ?_
  rintro e w1 ⟨rfl, hb1, hbl1⟩
  rw [List.nil_append, HCL.out] at hb1
  have HB1 := Lib.hid hb1
  have HBL1 := Lib.hid (((Below.refl _ w).alloc (Nat.le_refl _) _).trans hbl1)
  clear hb1 hbl1
  go_wp2_with fail
  go_loopw [20] (fun i wr => ∃ k : Nat, i = .int .i64 k ∧ k ≤ texts.length ∧ (∀ t ∈ texts.take k, t.length ≤ 8192) ∧ Lib.IsBuilderF TB TU w.heap.size w.heap.size (Lib.byteCells (L.last ++ Fr.enc L.ep L.many (texts.take k))) wr ∧ Below w.heap.size w wr) (fun i _ => texts.length - (intOf i).toNat)
  case atStart => exact ⟨0, rfl, Nat.zero_le _, by simp, .inr (by rw [List.take_zero]; simp only [Fr.enc, List.append_nil]; exact HB1.out), HBL1.out⟩
  case round =>
    obtain ⟨k, rfl, hk, hsm, hbd, hbl⟩ := hrel
    have HSM := Lib.hid hsm
    have HBD := Lib.hid hbd
    have HBL := Lib.hid hbl
    clear hsm hbd hbl
    by_cases hlt2 : k < texts.length
    · obtain ⟨t, hx⟩ : ∃ t, texts[k]? = some t := ⟨_, List.getElem?_eq_getElem hlt2⟩
      obtain ⟨tb, off, rfl, htb, hcell⟩ := HT.out.at_ hx
      obtain ⟨tt, htt, htz⟩ : ∃ tt : ByteArray, tt = ⟨t.toArray⟩ ∧ tt.size = t.length := ⟨_, rfl, by show t.toArray.size = _; simp⟩
      have hcw : wr.cell? ⟨tb, off + k, none⟩ = some (.string tt) := by rw [htt]; exact (HBL.out.cell (p := ⟨tb, off + k, none⟩) htb).trans hcell
      have hlr : IsLog wr lb b L := HL.out.below HBL.out hlt
      have l4 : wr.cell? ⟨lb, 4, none⟩ = some (.int .u64 L.many) := hlr.cell 4
      have l3 : wr.cell? ⟨lb, 3, none⟩ = some (.int .u64 L.ep) := hlr.cell 3
      have hk1000 : (k : Int) < 1000 := by omega
      have hmany := HS.out.many
      have hep := HS.out.ep
      have e0 : IntKind.u64.wrap (k : Int) = (k : Int) := IntWalk.u64_in _ (by omega)
      have e1 : IntKind.u64.wrap ((L.many : Int) + (k : Int)) = (L.many : Int) + (k : Int) := IntWalk.u64_in _ (by omega)
      have e2 : IntKind.u64.wrap ((L.many : Int) + (k : Int) + 1) = (L.many : Int) + (k : Int) + 1 := IntWalk.u64_in _ (by omega)
      have HP : Hid (∀ W, Calls Tryd.prog 51 #[.agg #[.int .u64 ((L.many : Int) + (k : Int) + 1), .int .u64 L.ep, .string tt]] W fun e' w' => e' = .returned (.tuple #[.string ⟨(putR (L.many + k + 1) L.ep tt.data.toList).1.toArray⟩, .int .i64 (putR (L.many + k + 1) L.ep tt.data.toList).2]) ∧ Below W.heap.size W w') := fun W => by
        have := put_call (L.many + k + 1) L.ep tt W (by omega) hep
        rw [show ((L.many + k + 1 : Nat) : Int) = (L.many : Int) + (k : Int) + 1 from by omega] at this
        exact this
      have htl : tt.data.toList = t := by rw [htt]
      rw [htl] at HP
      obtain ⟨⟨pl, pe⟩, hpl⟩ : ∃ x, putR (L.many + k + 1) L.ep t = x := ⟨_, rfl⟩
      rw [hpl] at HP
      have HTT := Lib.hid htt
      have HPL := Lib.hid hpl
      have HX := Lib.hid hx
      have HTZ := Lib.hid htz
      clear htt hpl hx htz htl hcell
      go_wp2_with fail
      go_region_with (go_at_call 51; refine (HP.out _).mono ?_; rintro e3 w3 ⟨rfl, hb3⟩; have l4' : w3.cell? ⟨lb, 4, none⟩ = some (.int .u64 L.many) := (hb3.cell (p := ⟨lb, 4, none⟩) (by show lb < wr.heap.size; exact hlr.lt)).trans l4; have l3' : w3.cell? ⟨lb, 3, none⟩ = some (.int .u64 L.ep) := (hb3.cell (p := ⟨lb, 3, none⟩) (by show lb < wr.heap.size; exact hlr.lt)).trans l3)
      all_goals
        have HB3 := Lib.hid hb3
        clear hb3
        by_cases hpe : pe = 0
        · subst hpe
          have hpt : t.length ≤ 8192 ∧ pl = Fr.putL (L.many + k + 1) L.ep t := by
            have h9 := HPL.out
            unfold putR at h9
            by_cases h8 : 8192 < t.length
            · rw [if_pos h8] at h9; cases h9
            · rw [if_neg h8] at h9; cases h9; exact ⟨by omega, rfl⟩
          obtain ⟨ps, hps, hpz⟩ : ∃ ps : ByteArray, ps = ⟨pl.toArray⟩ ∧ ps.size = pl.length := ⟨_, rfl, by show pl.toArray.size = _; simp⟩
          have hsm2 : ∀ t ∈ texts.take (k + 1), t.length ≤ 8192 := by
            intro y hy
            rw [List.take_add_one, HX.out] at hy
            rcases List.mem_append.1 hy with hy | hy
            · exact HSM.out y hy
            · have : y = t := by simpa using hy
              rw [this]; exact hpt.1
          have hbl3 : Below w.heap.size wr w3 := (Below.drew (Below.refl _ wr)).trans (HB3.out.mono HBL.out.size)
          have hbd3 : Lib.IsBuilderF TB TU w.heap.size w.heap.size (Lib.byteCells (L.last ++ Fr.enc L.ep L.many (texts.take k))) w3 := builder_same HBD.out (fun k' o hB ho _ => (HB3.out.block k' (Array.getElem?_eq_some_iff.1 ho).1).trans ho)
          have hlen1 := enc_len_le L.ep texts L.many k HSM.out hk
          have hplz : pl.length ≤ 8216 := by rw [hpt.2, Fr.putL_length]; omega
          have hll : L.last.length ≤ 64 := by rw [HS.out.last]; omega
          have hcat : Lib.byteCells (L.last ++ Fr.enc L.ep L.many (texts.take k)) ++ Lib.strCells ps = Lib.byteCells (L.last ++ Fr.enc L.ep L.many (texts.take (k + 1))) := by
            rw [enc_snoc _ _ _ _ _ HX.out, ← hpt.2, hps]
            simp [Lib.byteCells, Lib.strCells]
          have HW3 := Lib.hid (HWS.out w3 _ ps hbd3 (by rw [Lib.byteCells_length, List.length_append]; omega) (Nat.le_trans HBL.out.size hbl3.size))
          rw [hcat] at HW3
          have HBL3 := Lib.hid hbl3
          have HSM2 := Lib.hid hsm2
          rw [← hps]
          clear hpt hps hpz hsm2 hbl3 hbd3 hlen1 hplz hll hcat
          go_wp2_with fail
          refine HW3.out.mono ?_
          rintro e4 w4 ⟨rfl, hb4, hbl4⟩
          have HB4 := Lib.hid hb4
          have HBL4 := Lib.hid (HBL3.out.trans hbl4)
          clear hb4 hbl4
          go_wp2
          go_roundw
          case rel => exact ⟨k + 1, by go_num, hlt2, HSM2.out, .inr HB4.out, HBL.out.trans HBL4.out⟩
          case measure => simp [intOf]; omega
        · have hte : (pe != 0) = true := by rw [bne_iff_ne]; exact hpe
          obtain ⟨rfl, hbig⟩ : pe = 71 ∧ 8192 < t.length := by
            have h9 := HPL.out
            unfold putR at h9
            by_cases h8 : 8192 < t.length
            · rw [if_pos h8] at h9; cases h9; exact ⟨rfl, h8⟩
            · rw [if_neg h8] at h9; cases h9; exact absurd rfl hpe
          have hR2 : (D, L, (71 : Int)) = R := by
            rw [← HR.out]
            unfold appendL
            rw [if_pos ⟨t, List.mem_of_getElem? HX.out, hbig⟩]
          have HR2 := Lib.hid hR2
          clear hbig hR2 hpe
          go_wp2
          go_ret
          have hbl3 : Below w.heap.size w w3 := HBL.out.trans ((Below.drew (Below.refl _ wr)).trans (HB3.out.mono HBL.out.size))
          refine ⟨by rw [← HR2.out]; rfl, ?_, ?_, .of_below hbl3⟩
          · rw [← HR2.out]; exact HH.out.below hbl3
          · rw [← HR2.out]; exact HL.out.below hbl3 hlt
    · obtain rfl : k = texts.length := by omega
      rw [List.take_of_length_le (Nat.le_refl _)] at HSM HBD
      obtain ⟨S, hS⟩ : ∃ S, S = L.last ++ Fr.enc L.ep L.many texts := ⟨_, rfl⟩
      rw [← hS] at HBD
      obtain ⟨m, hm⟩ : ∃ m, m = Fr.szs texts := ⟨_, rfl⟩
      have hSl : S.length = L.last.length + m := by rw [hS, List.length_append, Fr.enc_length, hm]
      have hm1 : m ≤ 8216000 := by
        have := enc_len_le L.ep texts L.many texts.length (by rw [List.take_of_length_le (Nat.le_refl _)]; exact HSM.out) (Nat.le_refl _)
        rw [List.take_of_length_le (Nat.le_refl _), Fr.enc_length] at this
        omega
      obtain ⟨ss, hss, hsz⟩ : ∃ ss : ByteArray, ss = ⟨S.toArray⟩ ∧ ss.size = S.length := ⟨_, rfl, by show S.toArray.size = _; simp⟩
      have hsz2 : ss.size = ls.size + m := by rw [hsz, hSl, HLZ.out]
      have hsub : (ss.size : Int) - (ls.size : Int) = (m : Int) := by omega
      have hssm : ss.size ≤ 8216064 := by omega
      have HST := Lib.hid (string_any w.heap.size w.heap.size S wr HBD.out HBL.out.size)
      rw [← hss] at HST
      have HSUB := Lib.hid hsub
      have HSZ := Lib.hid hsz2
      have HSS := Lib.hid hss
      have HM := Lib.hid hm
      have HSd := Lib.hid hS
      clear hS hm hSl hss hsz hsz2 hsub
      go_wp2_with fail
      refine HST.out.mono ?_
      rintro e5 w5 ⟨rfl, _, hbl5⟩
      have hbw5 := HBL.out.trans hbl5
      have hl5 : IsLog w5 lb b L := HL.out.below hbw5 hlt
      have c56 : w5.cell? ⟨lb, 6, none⟩ = some (.string ls) := by have := hl5.cell 6; rw [HLS.out]; exact this
      have hsub := HSUB.out
      have HBW5 := Lib.hid hbw5
      have HL5 := Lib.hid hl5
      have HD5 := Lib.hid (HH.out.below hbw5)
      clear hbl5 hbw5 hl5
      by_cases ht0 : texts.length = 0
      · have hte : ((texts.length : Int) == 0) = true := by rw [beq_iff_eq]; omega
        have hR2 : (D, L, (0 : Int)) = R := by
          have : texts = [] := List.eq_nil_of_length_eq_zero ht0
          rw [← HR.out, this]
          unfold appendL
          rw [if_neg (by rintro ⟨t, h, _⟩; cases h), if_pos rfl]
        have HR2 := Lib.hid hR2
        clear ht0 hR2
        go_wp2
        go_ret
        refine ⟨by rw [← HR2.out]; rfl, ?_, ?_, .of_below HBW5.out⟩
        · rw [← HR2.out]; exact HD5.out
        · rw [← HR2.out]; exact HL5.out
      · have htf : ((texts.length : Int) == 0) = false := by rw [beq_eq_false_iff_ne]; omega
        obtain ⟨rv, hrv⟩ : ∃ rv, rv = L.room := ⟨_, rfl⟩
        have HRM := Lib.hid (room_any HL5.out _ HS.out)
        rw [← hrv] at HRM
        have HRV := Lib.hid hrv
        have hno : ¬ ∃ t ∈ texts, 8192 < t.length := by
          rintro ⟨t, h1, h2⟩
          have := HSM.out t h1
          omega
        have hne : texts ≠ [] := by rintro rfl; exact ht0 rfl
        have HNO := Lib.hid hno
        have HNE := Lib.hid hne
        clear hrv hno hne ht0
        by_cases hroom : rv < (m : Int)
        · have hR2 : (D, L, (2 : Int)) = R := by
            rw [← HR.out]
            unfold appendL
            rw [if_neg HNO.out, if_neg HNE.out, if_pos (by rw [← HRV.out, ← HM.out]; exact hroom)]
          have HR2 := Lib.hid hR2
          clear hR2
          go_wp2_with (go_at_call 16; refine HRM.out.mono ?_; rintro e6 w6 ⟨rfl, hb6⟩)
          go_ret
          have hbw6 := HBW5.out.trans (hb6.mono HBW5.out.size)
          refine ⟨by rw [← HR2.out]; rfl, ?_, ?_, .of_below hbw6⟩
          · rw [← HR2.out]; exact HH.out.below hbw6
          · rw [← HR2.out]; exact HL.out.below hbw6 hlt
        · cases hov : L.over with
          | true =>
            have hR2 : (D, L, (180 : Int)) = R := by
              rw [← HR.out]
              unfold appendL
              rw [if_neg HNO.out, if_neg HNE.out, if_neg (by rw [← HRV.out, ← HM.out]; exact hroom), if_pos hov]
            have HR2 := Lib.hid hR2
            have HOV := Lib.hid hov
            clear hR2 hov
            go_wp2_with (go_at_call 16; refine HRM.out.mono ?_; rintro e6 w6 ⟨rfl, hb6⟩; have hbw6 := HBW5.out.trans (hb6.mono HBW5.out.size); have c7 : w6.cell? ⟨lb, 7, none⟩ = some (.bool true) := by have := (HL.out.below hbw6 hlt).cell 7; rw [HOV.out] at this; exact this)
            go_ret
            refine ⟨by rw [← HR2.out]; rfl, ?_, ?_, .of_below hbw6⟩
            · rw [← HR2.out]; exact HH.out.below hbw6
            · rw [← HR2.out]; exact HL.out.below hbw6 hlt
          | false =>
            have HOV := Lib.hid hov
            clear hov
            go_wp2_with (go_at_call 16; refine HRM.out.mono ?_; rintro e6 w6 ⟨rfl, hb6⟩; have hbw6 := HBW5.out.trans (hb6.mono HBW5.out.size); have c7 : w6.cell? ⟨lb, 7, none⟩ = some (.bool false) := by have := (HL.out.below hbw6 hlt).cell 7; rw [HOV.out] at this; exact this)
            have hl6 : IsLog w6 lb b L := HL.out.below hbw6 hlt
            have hd6 : IsDisk w6 b g bm D := HH.out.below hbw6
            have k1 : w6.cell? ⟨lb, 1, none⟩ = some (.int .i64 L.fr) := hl6.cell 1
            have k5 : w6.cell? ⟨lb, 5, none⟩ = some (.int .i64 L.en) := hl6.cell 5
            obtain ⟨q, hq⟩ : ∃ q : Nat, q = L.en / 64 := ⟨_, rfl⟩
            obtain ⟨a0, ha0⟩ : ∃ a0 : Nat, a0 = L.fr + q := ⟨_, rfl⟩
            have hsane := HS.out
            have hen := hsane.en
            have hto := hsane.hi
            have hn4 := hsane.n4
            have hlt3 := hsane.lt
            have q1 : (L.en : Int).tdiv 64 = (q : Int) := by rw [Int.tdiv_eq_ediv_of_nonneg (by omega)]; omega
            have q2 : (L.en : Int) / 64 = (q : Int) := by omega
            have q3 : (L.fr : Int) + (q : Int) = (a0 : Int) := by omega
            have q4 : IntKind.i64.wrap (a0 : Int) = (a0 : Int) := IntWalk.i64_in _ (by omega)
            have q5 : IntKind.i64.wrap (q : Int) = (q : Int) := IntWalk.i64_in _ (by omega)
            have HQ := Lib.hid hq
            have HA0 := Lib.hid ha0
            have HL6 := Lib.hid hl6
            have HD6 := Lib.hid hd6
            have HBW6 := Lib.hid hbw6
            have HSN := Lib.hid (⟨hen, hto, hn4, hlt3⟩ : L.en ≤ 64 * (L.to_ - L.fr) ∧ L.to_ ≤ D.olds.length ∧ D.olds.length ≤ 4096 ∧ L.fr < L.to_)
            clear hq ha0 hsane hen hto hn4 hlt3 hl6 hd6 hbw6
            go_quiet (fail)
            clear q1 q2 q3 q4 q5 k1 k5
            obtain ⟨nf, hnf⟩ : ∃ nf, nf = S.length / 64 := ⟨_, rfl⟩
            have HNF64 := Lib.hid hnf
            have hSs : S.length ≤ 8216064 := by
              have h1 := HSS.out
              have h2 : ss.size = S.length := by rw [h1]; show S.toArray.size = _; simp
              omega
            have HSs := Lib.hid hSs
            have W0 : Hid (∃ Dj, WrAt w b g bm lb a0 L D S 0 Dj (w6.drewN nq)) := ⟨D, ⟨Nat.zero_le _, HD6.out.drewN nq, rfl, by simp, HL6.out, (Kp.of_below HBW6.out).trans (kp_drewN _ _ _)⟩⟩
            have ha4096 : a0 ≤ 4096 := by
              have h1 := HSN.out
              have h2 := HA0.out
              have h3 := HQ.out
              omega
            clear hnf hSs
            go_wp2
            rw [HSS.out]
            go_loopw [10, 12] (fun s i wr => ∃ (j : Nat) (Dj : DS), s = .string ⟨(S.drop (64 * j)).toArray⟩ ∧ i = .int .i64 ((a0 + j : Nat) : Int) ∧ WrAt w b g bm lb a0 L D S j Dj wr) (fun _ i _ => a0 + S.length - (intOf i).toNat)
            case atStart => obtain ⟨Dj, hw⟩ := W0.out; exact ⟨0, Dj, by simp, rfl, hw⟩
            case round =>
              obtain ⟨j, Dj, rfl, rfl, hw⟩ := hrel
              have HW := Lib.hid hw
              obtain ⟨sj, hsj, hsjz⟩ : ∃ sj : ByteArray, sj = ⟨(S.drop (64 * j)).toArray⟩ ∧ sj.size = S.length - 64 * j := ⟨_, rfl, by show (S.drop (64 * j)).toArray.size = _; simp⟩
              have hsm : sj.size ≤ 8216064 := by have := HSs.out; omega
              have HSJ := Lib.hid hsj
              have HSJZ := Lib.hid hsjz
              rw [← hsj]
              clear hw hsj hsjz
              by_cases hge : 64 ≤ sj.size
              · have hlt5 : 64 * j + 64 ≤ S.length := by have := HSJZ.out; omega
                obtain ⟨ai, hai⟩ : ∃ ai : Nat, ai = a0 + j := ⟨_, rfl⟩
                have hai2 : (ai : Int) ≤ 9000000 := by have := HSs.out; omega
                have c0 : wr.cell? ⟨lb, 0, none⟩ = some (.pointer (some ⟨b, 0, none⟩)) := HW.out.log.cell 0
                have f7 : wr.frozen? ⟨lb, 7, none⟩ = false := HW.out.log.free 7
                have c7w : wr.cell? ⟨lb, 7, none⟩ = some (.bool false) := by have := HW.out.log.cell 7; rw [HOV.out] at this; exact this
                have hwr := write_any (HW.out.disk.drew) ((ai : Nat) : Int) (sj.extract 0 64) (by rw [ByteArray.size_extract]; omega)
                have hul : (sj.extract 0 64).data.toList = (S.drop (64 * j)).take 64 := by rw [Fr.extract_list, HSJ.out]; simp
                rw [hul] at hwr
                obtain ⟨⟨D3, er⟩, hD3⟩ : ∃ x, Dk.write Dj ((ai : Nat) : Int) ((S.drop (64 * j)).take 64) = x := ⟨_, rfl⟩
                rw [hD3] at hwr
                have hl3 : D3.olds.length = D.olds.length := by
                  have := write_len Dj ((ai : Nat) : Int) ((S.drop (64 * j)).take 64)
                  rw [hD3] at this
                  exact this.trans HW.out.len
                have hgo := HW.out.go
                rw [show S.length / 64 - j = (S.length / 64 - (j + 1)) + 1 from by omega, fullsGo, ← hai, hD3] at hgo
                have HWR := Lib.hid hwr
                have HAI := Lib.hid hai
                have HGO := Lib.hid hgo
                have HL3 := Lib.hid hl3
                rw [← hai]
                clear hwr hul hD3 hgo hai hl3
                by_cases her : er = 0
                · subst her
                  have HGO2 : Hid (fullsGo (S.length / 64 - (j + 1)) D3 (a0 + (j + 1)) (S.drop (64 * (j + 1))) = fullsGo (S.length / 64) D a0 S) := by
                    have h9 := HGO.out
                    simp only [ne_eq, not_true_eq_false, if_false] at h9
                    rw [HAI.out, List.drop_drop, show 64 * j + 64 = 64 * (j + 1) from by omega] at h9
                    exact h9
                  go_wp2_with fail
                  go_region_with (go_at_call 52; refine HWR.out.mono ?_; rintro e8 w8 ⟨rfl, h8, k8⟩; have l8 : IsLog w8 lb b L := (show IsLog wr.drew lb b L from HW.out.log).kept k8 HNF.out; have c0' : w8.cell? ⟨lb, 0, none⟩ = some (.pointer (some ⟨b, 0, none⟩)) := l8.cell 0; have f7' : w8.frozen? ⟨lb, 7, none⟩ = false := l8.free 7; have c7' : w8.cell? ⟨lb, 7, none⟩ = some (.bool false) := by have := l8.cell 7; rw [HOV.out] at this; exact this)
                  all_goals
                    have K8 := Lib.hid ((HW.out.kp.drew).trans (k8.mono fun _ h => .inl h))
                    have H8 := Lib.hid h8
                    have L8 := Lib.hid l8
                    clear k8 h8 l8
                    go_wp2
                    go_roundw
                    case rel =>
                      repeat apply Exists.intro
                      refine ⟨?_, rfl⟩
                      refine ⟨j + 1, D3, ?_, ?_, ⟨by omega, H8.out.setCell (p := ⟨lb, 7, none⟩) HNF.out _, HL3.out, HGO2.out, ?_, K8.out.setCell (p := ⟨lb, 7, none⟩) (.inr rfl) _⟩⟩
                      · congr 1
                        apply Fr.ext_list
                        rw [Fr.extract_list, HSJ.out]
                        rw [List.take_of_length_le (by show _ ≤ (⟨(S.drop (64 * j)).toArray⟩ : ByteArray).size; simp [ByteArray.size]), List.drop_drop]
                        congr 1
                      · rw [HAI.out]; go_num
                      · have := L8.out.setOver false
                        rw [over_same HOV.out] at this
                        exact this
                    case measure => have := HAI.out; simp [intOf]; omega
                · have hte : (er != 0) = true := by rw [bne_iff_ne]; exact her
                  have hR2 : (D3, { L with over := true }, (180 : Int)) = R := by
                    have h9 := HGO.out
                    rw [if_pos her] at h9
                    rw [← HR.out]
                    unfold appendL
                    rw [if_neg HNO.out, if_neg HNE.out, if_neg (by rw [← HRV.out, ← HM.out]; omega), if_neg (by rw [HOV.out]; simp)]
                    rw [← HSd.out, ← HQ.out, ← HA0.out]
                    unfold putsGo
                    rw [← h9]
                    simp
                  have HR2 := Lib.hid hR2
                  clear her hR2
                  go_wp2_with fail
                  go_region_with (go_at_call 52; refine HWR.out.mono ?_; rintro e8 w8 ⟨rfl, h8, k8⟩; have l8 : IsLog w8 lb b L := (show IsLog wr.drew lb b L from HW.out.log).kept k8 HNF.out; have c0' : w8.cell? ⟨lb, 0, none⟩ = some (.pointer (some ⟨b, 0, none⟩)) := l8.cell 0; have f7' : w8.frozen? ⟨lb, 7, none⟩ = false := l8.free 7; have c7' : w8.cell? ⟨lb, 7, none⟩ = some (.bool false) := by have := l8.cell 7; rw [HOV.out] at this; exact this)
                  all_goals
                    have K8 := Lib.hid ((HW.out.kp.drew).trans (k8.mono fun _ h => .inl h))
                    have H8 := Lib.hid h8
                    have L8 := Lib.hid l8
                    clear k8 h8 l8
                    go_wp2
                    go_ret
                    refine ⟨by rw [← HR2.out]; rfl, ?_, ?_, K8.out.setCell (p := ⟨lb, 7, none⟩) (.inr rfl) _⟩
                    · rw [← HR2.out]; exact H8.out.setCell (p := ⟨lb, 7, none⟩) HNF.out _
                    · rw [← HR2.out]; exact L8.out.setOver true
              · have hj : j = S.length / 64 := by have := HSJZ.out; have := HW.out.le; omega
                have hfull : fullsGo (S.length / 64) D a0 S = (Dj, false) := by
                  rw [← HW.out.go, hj, Nat.sub_self]; rfl
                have HFULL := Lib.hid hfull
                have HJJ := Lib.hid hj
                clear hfull hj
                by_cases hr : S.drop (64 * j) = []
                · have hs0 : sj.toList = [] := by rw [ByteArray.toList_eq, HSJ.out]; simpa using hr
                  have hs1 : sj.toList.isEmpty = true := by simpa using hs0
                  have HPG : Hid (putsGo D a0 S = ((Dk.sync Dj).1, decide ((Dk.sync Dj).2 ≠ 0))) := by
                    show _ = _
                    unfold putsGo
                    rw [HFULL.out]
                    simp only [Bool.false_eq_true, if_false]
                    rw [← HJJ.out]
                    unfold restGo
                    rw [if_pos hr]
                  have H9 := Lib.hid HW.out.disk
                  have L9 := Lib.hid HW.out.log
                  have K9 := Lib.hid HW.out.kp
                  have HRN := Lib.hid hr
                  clear hr
                  obtain ⟨w9, hw9⟩ : ∃ w9, w9 = wr := ⟨_, rfl⟩
                  obtain ⟨DX, hDX⟩ : ∃ DX, DX = Dj := ⟨_, rfl⟩
                  subst hw9 hDX
                  obtain ⟨⟨D10, es⟩, hD10⟩ : ∃ x, Dk.sync DX = x := ⟨_, rfl⟩
                  have hsy := sync_any H9.out
                  rw [hD10] at hsy
                  rw [hD10] at HPG
                  have HSY := Lib.hid hsy
                  have c0 : w9.cell? ⟨lb, 0, none⟩ = some (.pointer (some ⟨b, 0, none⟩)) := L9.out.cell 0
                  have f7 : w9.frozen? ⟨lb, 7, none⟩ = false := L9.out.free 7
                  have c7w : w9.cell? ⟨lb, 7, none⟩ = some (.bool false) := by have := L9.out.cell 7; rw [HOV.out] at this; exact this
                  clear hsy hD10
                  by_cases hes : es = 0
                  · subst hes
                    have hR2 : (D10, { L with many := L.many + texts.length, en := L.en + m, last := S.drop (64 * j) }, (0 : Int)) = R := by
                      rw [← HR.out]
                      unfold appendL
                      rw [if_neg HNO.out, if_neg HNE.out, if_neg (by rw [← HRV.out, ← HM.out]; omega), if_neg (by rw [HOV.out]; simp)]
                      rw [← HSd.out, ← HQ.out, ← HA0.out, HPG.out, ← HJJ.out, ← HM.out]
                      simp
                    have HR2 := Lib.hid hR2
                    clear hR2
                    go_wp2_with (go_at_call 53; refine HSY.out.mono ?_; rintro e10 w10 ⟨rfl, h10, k10⟩; have l10 : IsLog w10 lb b L := L9.out.kept k10 HNF.out; have f7' : w10.frozen? ⟨lb, 7, none⟩ = false := l10.free 7; have c7' : w10.cell? ⟨lb, 7, none⟩ = some (.bool false) := by have := l10.cell 7; rw [HOV.out] at this; exact this)
                    have l11 := l10.setOver false
                    rw [over_same HOV.out] at l11
                    have h11 := h10.setCell (p := ⟨lb, 7, none⟩) HNF.out (.bool false)
                    have k11 := (K9.out.trans (k10.mono fun _ h => .inl h)).setCell (p := ⟨lb, 7, none⟩) (.inr rfl) (.bool false)
                    obtain ⟨w11, hw11⟩ : ∃ w11, w10.setCell ⟨lb, 7, none⟩ (.bool false) = w11 := ⟨_, rfl⟩
                    rw [hw11] at l11 h11 k11
                    rw [hw11]
                    have g4 : w11.cell? ⟨lb, 4, none⟩ = some (.int .u64 L.many) := l11.cell 4
                    have g5 : w11.cell? ⟨lb, 5, none⟩ = some (.int .i64 L.en) := l11.cell 5
                    have g6 : w11.cell? ⟨lb, 6, none⟩ = some (.string ls) := by have := l11.cell 6; rw [HLS.out]; exact this
                    have f4 : w11.frozen? ⟨lb, 4, none⟩ = false := l11.free 4
                    have f5 : w11.frozen? ⟨lb, 5, none⟩ = false := l11.free 5
                    have f6 : w11.frozen? ⟨lb, 6, none⟩ = false := l11.free 6
                    have hmany := HS.out.many
                    have hlong := HSN.out
                    obtain ⟨mn, hmn⟩ : ∃ mn : Nat, mn = L.many + texts.length := ⟨_, rfl⟩
                    obtain ⟨en2, hen2⟩ : ∃ en2 : Nat, en2 = L.en + m := ⟨_, rfl⟩
                    have s1 : IntKind.u64.wrap (texts.length : Int) = (texts.length : Int) := IntWalk.u64_in _ (by omega)
                    have s2 : (L.many : Int) + (texts.length : Int) = (mn : Int) := by omega
                    have s3 : IntKind.u64.wrap (mn : Int) = (mn : Int) := IntWalk.u64_in _ (by omega)
                    have s4 : (L.en : Int) + (m : Int) = (en2 : Int) := by omega
                    have s5 : IntKind.i64.wrap (en2 : Int) = (en2 : Int) := IntWalk.i64_in _ (by omega)
                    rw [← hmn, ← hen2] at HR2
                    have L11 := Lib.hid l11
                    have H11 := Lib.hid h11
                    have K11 := Lib.hid k11
                    clear hw11 l11 h11 k11 hmany hlong hmn hen2 h10 k10 l10 f7' c7' c0 f7 c7w
                    go_region
                    go_wp2
                    go_ret
                    refine ⟨by rw [← HR2.out]; rfl, ?_, ?_, ((((K11.out.setCell (p := ⟨lb, 4, none⟩) (.inr rfl) _).setCell (p := ⟨lb, 5, none⟩) (.inr rfl) _).setCell (p := ⟨lb, 6, none⟩) (.inr rfl) _).drew)⟩
                    · rw [← HR2.out]; exact (((H11.out.setCell (p := ⟨lb, 4, none⟩) HNF.out _).setCell (p := ⟨lb, 5, none⟩) HNF.out _).setCell (p := ⟨lb, 6, none⟩) HNF.out _).drew
                    · rw [← HR2.out]
                      have h9 := ((L11.out.setMany mn).setEn en2).setLast (S.drop (64 * j))
                      rw [← HSJ.out] at h9
                      exact h9
                  · have hte : (es != 0) = true := by rw [bne_iff_ne]; exact hes
                    have hR2 : (D10, { L with over := true }, (180 : Int)) = R := by
                      rw [← HR.out]
                      unfold appendL
                      rw [if_neg HNO.out, if_neg HNE.out, if_neg (by rw [← HRV.out, ← HM.out]; omega), if_neg (by rw [HOV.out]; simp)]
                      rw [← HSd.out, ← HQ.out, ← HA0.out, HPG.out]
                      simp [hes]
                    have HR2 := Lib.hid hR2
                    clear hR2 hes
                    go_wp2_with (go_at_call 53; refine HSY.out.mono ?_; rintro e10 w10 ⟨rfl, h10, k10⟩; have l10 : IsLog w10 lb b L := L9.out.kept k10 HNF.out; have f7' : w10.frozen? ⟨lb, 7, none⟩ = false := l10.free 7; have c7' : w10.cell? ⟨lb, 7, none⟩ = some (.bool false) := by have := l10.cell 7; rw [HOV.out] at this; exact this)
                    go_ret
                    refine ⟨by rw [← HR2.out]; rfl, ?_, ?_, (K9.out.trans (k10.mono fun _ h => .inl h)).setCell (p := ⟨lb, 7, none⟩) (.inr rfl) _⟩
                    · rw [← HR2.out]; exact h10.setCell (p := ⟨lb, 7, none⟩) HNF.out _
                    · rw [← HR2.out]; exact l10.setOver true
                · have hs0 : ¬ sj.toList = [] := by rw [ByteArray.toList_eq, HSJ.out]; simpa using hr
                  have hs1 : sj.toList.isEmpty = false := by simpa using hs0
                  obtain ⟨ai, hai⟩ : ∃ ai : Nat, ai = a0 + j := ⟨_, rfl⟩
                  have hai2 : (ai : Int) ≤ 9000000 := by have := HSs.out; have := HW.out.le; omega
                  have c0 : wr.cell? ⟨lb, 0, none⟩ = some (.pointer (some ⟨b, 0, none⟩)) := HW.out.log.cell 0
                  have f7 : wr.frozen? ⟨lb, 7, none⟩ = false := HW.out.log.free 7
                  have c7w : wr.cell? ⟨lb, 7, none⟩ = some (.bool false) := by have := HW.out.log.cell 7; rw [HOV.out] at this; exact this
                  have hwr := write_any HW.out.disk ((ai : Nat) : Int) sj (by omega)
                  have hul : sj.data.toList = S.drop (64 * j) := by rw [HSJ.out]
                  rw [hul] at hwr
                  obtain ⟨⟨D3, er⟩, hD3⟩ : ∃ x, Dk.write Dj ((ai : Nat) : Int) (S.drop (64 * j)) = x := ⟨_, rfl⟩
                  rw [hD3] at hwr
                  have HWR := Lib.hid hwr
                  have HPG0 : Hid (putsGo D a0 S = if er ≠ 0 then (D3, true) else ((Dk.sync D3).1, decide ((Dk.sync D3).2 ≠ 0))) := by
                    show _ = _
                    unfold putsGo
                    rw [HFULL.out]
                    simp only [Bool.false_eq_true, if_false]
                    rw [← HJJ.out]
                    unfold restGo
                    rw [if_neg hr, ← hai, hD3]
                  rw [← hai]
                  clear hwr hul hai hD3 hr
                  by_cases her : er = 0
                  · subst her
                    have HPG : Hid (putsGo D a0 S = ((Dk.sync D3).1, decide ((Dk.sync D3).2 ≠ 0))) := by
                      have h9 := HPG0.out
                      simp only [ne_eq, not_true_eq_false, if_false] at h9
                      exact h9
                    go_wp2_with (go_at_call 52; refine HWR.out.mono ?_; rintro e8 w8 ⟨rfl, h8, k8⟩; have l8 : IsLog w8 lb b L := HW.out.log.kept k8 HNF.out; have c0' : w8.cell? ⟨lb, 0, none⟩ = some (.pointer (some ⟨b, 0, none⟩)) := l8.cell 0; have f7' : w8.frozen? ⟨lb, 7, none⟩ = false := l8.free 7; have c7' : w8.cell? ⟨lb, 7, none⟩ = some (.bool false) := by have := l8.cell 7; rw [HOV.out] at this; exact this)
                    have l9 := l8.setOver false
                    rw [over_same HOV.out] at l9
                    have h9 := h8.setCell (p := ⟨lb, 7, none⟩) HNF.out (.bool false)
                    have k9 := (HW.out.kp.trans (k8.mono fun _ h => .inl h)).setCell (p := ⟨lb, 7, none⟩) (.inr rfl) (.bool false)
                    obtain ⟨w9, hw9⟩ : ∃ w9, w8.setCell ⟨lb, 7, none⟩ (.bool false) = w9 := ⟨_, rfl⟩
                    rw [hw9] at l9 h9 k9
                    rw [hw9]
                    have H9 := Lib.hid h9
                    have L9 := Lib.hid l9
                    have K9 := Lib.hid k9
                    clear hw9 l9 h9 k9 h8 k8 l8 f7' c7' c0' c0 f7 c7w
                    obtain ⟨DX, hDX⟩ : ∃ DX, DX = D3 := ⟨_, rfl⟩
                    subst hDX
                    obtain ⟨⟨D10, es⟩, hD10⟩ : ∃ x, Dk.sync DX = x := ⟨_, rfl⟩
                    have hsy := sync_any H9.out
                    rw [hD10] at hsy
                    rw [hD10] at HPG
                    have HSY := Lib.hid hsy
                    have c0 : w9.cell? ⟨lb, 0, none⟩ = some (.pointer (some ⟨b, 0, none⟩)) := L9.out.cell 0
                    have f7 : w9.frozen? ⟨lb, 7, none⟩ = false := L9.out.free 7
                    have c7w : w9.cell? ⟨lb, 7, none⟩ = some (.bool false) := by have := L9.out.cell 7; rw [HOV.out] at this; exact this
                    clear hsy hD10
                    by_cases hes : es = 0
                    · subst hes
                      have hR2 : (D10, { L with many := L.many + texts.length, en := L.en + m, last := S.drop (64 * j) }, (0 : Int)) = R := by
                        rw [← HR.out]
                        unfold appendL
                        rw [if_neg HNO.out, if_neg HNE.out, if_neg (by rw [← HRV.out, ← HM.out]; omega), if_neg (by rw [HOV.out]; simp)]
                        rw [← HSd.out, ← HQ.out, ← HA0.out, HPG.out, ← HJJ.out, ← HM.out]
                        simp
                      have HR2 := Lib.hid hR2
                      clear hR2
                      go_wp2_with (go_at_call 53; refine HSY.out.mono ?_; rintro e10 w10 ⟨rfl, h10, k10⟩; have l10 : IsLog w10 lb b L := L9.out.kept k10 HNF.out; have f7' : w10.frozen? ⟨lb, 7, none⟩ = false := l10.free 7; have c7' : w10.cell? ⟨lb, 7, none⟩ = some (.bool false) := by have := l10.cell 7; rw [HOV.out] at this; exact this)
                      have l11 := l10.setOver false
                      rw [over_same HOV.out] at l11
                      have h11 := h10.setCell (p := ⟨lb, 7, none⟩) HNF.out (.bool false)
                      have k11 := (K9.out.trans (k10.mono fun _ h => .inl h)).setCell (p := ⟨lb, 7, none⟩) (.inr rfl) (.bool false)
                      obtain ⟨w11, hw11⟩ : ∃ w11, w10.setCell ⟨lb, 7, none⟩ (.bool false) = w11 := ⟨_, rfl⟩
                      rw [hw11] at l11 h11 k11
                      rw [hw11]
                      have g4 : w11.cell? ⟨lb, 4, none⟩ = some (.int .u64 L.many) := l11.cell 4
                      have g5 : w11.cell? ⟨lb, 5, none⟩ = some (.int .i64 L.en) := l11.cell 5
                      have g6 : w11.cell? ⟨lb, 6, none⟩ = some (.string ls) := by have := l11.cell 6; rw [HLS.out]; exact this
                      have f4 : w11.frozen? ⟨lb, 4, none⟩ = false := l11.free 4
                      have f5 : w11.frozen? ⟨lb, 5, none⟩ = false := l11.free 5
                      have f6 : w11.frozen? ⟨lb, 6, none⟩ = false := l11.free 6
                      have hmany := HS.out.many
                      have hlong := HSN.out
                      obtain ⟨mn, hmn⟩ : ∃ mn : Nat, mn = L.many + texts.length := ⟨_, rfl⟩
                      obtain ⟨en2, hen2⟩ : ∃ en2 : Nat, en2 = L.en + m := ⟨_, rfl⟩
                      have s1 : IntKind.u64.wrap (texts.length : Int) = (texts.length : Int) := IntWalk.u64_in _ (by omega)
                      have s2 : (L.many : Int) + (texts.length : Int) = (mn : Int) := by omega
                      have s3 : IntKind.u64.wrap (mn : Int) = (mn : Int) := IntWalk.u64_in _ (by omega)
                      have s4 : (L.en : Int) + (m : Int) = (en2 : Int) := by omega
                      have s5 : IntKind.i64.wrap (en2 : Int) = (en2 : Int) := IntWalk.i64_in _ (by omega)
                      rw [← hmn, ← hen2] at HR2
                      have L11 := Lib.hid l11
                      have H11 := Lib.hid h11
                      have K11 := Lib.hid k11
                      clear hw11 l11 h11 k11 hmany hlong hmn hen2 h10 k10 l10 f7' c7' c0 f7 c7w
                      go_region
                      go_wp2
                      go_ret
                      refine ⟨by rw [← HR2.out]; rfl, ?_, ?_, ((((K11.out.setCell (p := ⟨lb, 4, none⟩) (.inr rfl) _).setCell (p := ⟨lb, 5, none⟩) (.inr rfl) _).setCell (p := ⟨lb, 6, none⟩) (.inr rfl) _).drew)⟩
                      · rw [← HR2.out]; exact (((H11.out.setCell (p := ⟨lb, 4, none⟩) HNF.out _).setCell (p := ⟨lb, 5, none⟩) HNF.out _).setCell (p := ⟨lb, 6, none⟩) HNF.out _).drew
                      · rw [← HR2.out]
                        have h9 := ((L11.out.setMany mn).setEn en2).setLast (S.drop (64 * j))
                        rw [← HSJ.out] at h9
                        exact h9
                    · have hte : (es != 0) = true := by rw [bne_iff_ne]; exact hes
                      have hR2 : (D10, { L with over := true }, (180 : Int)) = R := by
                        rw [← HR.out]
                        unfold appendL
                        rw [if_neg HNO.out, if_neg HNE.out, if_neg (by rw [← HRV.out, ← HM.out]; omega), if_neg (by rw [HOV.out]; simp)]
                        rw [← HSd.out, ← HQ.out, ← HA0.out, HPG.out]
                        simp [hes]
                      have HR2 := Lib.hid hR2
                      clear hR2 hes
                      go_wp2_with (go_at_call 53; refine HSY.out.mono ?_; rintro e10 w10 ⟨rfl, h10, k10⟩; have l10 : IsLog w10 lb b L := L9.out.kept k10 HNF.out; have f7' : w10.frozen? ⟨lb, 7, none⟩ = false := l10.free 7; have c7' : w10.cell? ⟨lb, 7, none⟩ = some (.bool false) := by have := l10.cell 7; rw [HOV.out] at this; exact this)
                      go_ret
                      refine ⟨by rw [← HR2.out]; rfl, ?_, ?_, (K9.out.trans (k10.mono fun _ h => .inl h)).setCell (p := ⟨lb, 7, none⟩) (.inr rfl) _⟩
                      · rw [← HR2.out]; exact h10.setCell (p := ⟨lb, 7, none⟩) HNF.out _
                      · rw [← HR2.out]; exact l10.setOver true
                  · have hte : (er != 0) = true := by rw [bne_iff_ne]; exact her
                    have hR2 : (D3, { L with over := true }, (180 : Int)) = R := by
                      rw [← HR.out]
                      unfold appendL
                      rw [if_neg HNO.out, if_neg HNE.out, if_neg (by rw [← HRV.out, ← HM.out]; omega), if_neg (by rw [HOV.out]; simp)]
                      rw [← HSd.out, ← HQ.out, ← HA0.out, HPG0.out, if_pos her]
                      simp
                    have HR2 := Lib.hid hR2
                    clear her hR2
                    go_wp2_with (go_at_call 52; refine HWR.out.mono ?_; rintro e8 w8 ⟨rfl, h8, k8⟩; have l8 : IsLog w8 lb b L := HW.out.log.kept k8 HNF.out; have c0' : w8.cell? ⟨lb, 0, none⟩ = some (.pointer (some ⟨b, 0, none⟩)) := l8.cell 0; have f7' : w8.frozen? ⟨lb, 7, none⟩ = false := l8.free 7; have c7' : w8.cell? ⟨lb, 7, none⟩ = some (.bool false) := by have := l8.cell 7; rw [HOV.out] at this; exact this)
                    go_ret
                    refine ⟨by rw [← HR2.out]; rfl, ?_, ?_, ((HW.out.kp.trans (k8.mono fun _ h => .inl h)).setCell (p := ⟨lb, 7, none⟩) (.inr rfl) _).setCell (p := ⟨lb, 7, none⟩) (.inr rfl) _⟩
                    · rw [← HR2.out]; exact (h8.setCell (p := ⟨lb, 7, none⟩) HNF.out _).setCell (p := ⟨lb, 7, none⟩) HNF.out _
                    · rw [← HR2.out]; exact (l8.setOver true).setOver true

theorem append_any (h : IsDisk w b g bm D) (hl : IsLog w lb b L) (hnf : ¬ Foot b g bm lb) (hs : Sane D.olds.length L) (v : Value) (texts : List Bs) (ht : RowT w v texts) (hn : texts.length ≤ 1000) :
    Calls Tryd.prog 14 #[.pointer (some ⟨lb, 0, none⟩), v] w (AppPost w b g bm lb (appendL D L texts)) :=
  append_aux h hl hnf hs v texts ht hn _ rfl
end Go.Proofs.YtoafebndlldclaaDoor.Wl
