/- The call of the law WalOther is proved: it answers true, whatever the texts, the epoch and the places. -/
import Derived.Test.YtoafebndlldclaaDoorShown19
import Derived.OpenShut
namespace Go.Proofs.YtoafebndlldclaaDoor.Wl
open Go Go.RowKit Go.Shelf Dk Fr

structure OtherIs (ep ep2 : Nat) (fr to_ : Int) (x : List Bs) (D1 D2 D3 D4 D5 : DS) (L1 L2 L3 L4 : LS) (R5 : Option LS × List Bs × Int) : Prop where
  r1 : openL (new 30) 0 30 ep = (D1, some L1, [], 0)
  r2 : appendL D1 L1 x = (D2, L2, 0)
  r3 : openL D2 0 30 ep2 = (D3, some L3, [], 0)
  r4 : openL D3 0 30 ep = (D4, some L4, [], 0)
  r5 : openL D4 fr to_ ep = (D5, R5)
  s1 : Sane D1.olds.length L1
  yes : (0 ≤ fr ∧ fr < to_ ∧ to_ ≤ 30) → R5.2.2 = 0 ∧ R5.1.isSome = true
  no : ¬ (0 ≤ fr ∧ fr < to_ ∧ to_ ≤ 30) → R5.2.2 = 1 ∧ R5.1 = none
theorem other_plain {ep ep2 : Nat} (h1 : ep < 18446744073709551616) (h2 : ep2 < 18446744073709551616) (hne : ep ≠ ep2) (fr to_ : Int) (l : List Bs) : ∃ D1 D2 D3 D4 D5 L1 L2 L3 L4 R5, OtherIs ep ep2 fr to_ (cutL l) D1 D2 D3 D4 D5 L1 L2 L3 L4 R5 := by
  have hsm : ∀ t ∈ cutL l, t.length ≤ 8192 := fun t ht => by have := cut_small l t ht; omega
  have hsz := szs_cut l
  obtain ⟨D1, L1, r1, o1⟩ := open_ok (fr := 0) (to_ := 30) (ep := ep) (new_calm (n := 30) (by omega) (by omega)) (by omega) (by rw [new_len]; omega) h1 rfl (recs := []) (by rw [bytes_new 30 30 0 (by omega)]; exact told_zeros h1 _)
  obtain ⟨D2, L2, r2, o2⟩ := append_ok (texts := cutL l) o1.good (o1.beside.fuse rfl) hsm (by rw [o1.efr, o1.eto]; simp only [szs]; omega)
  have f2 := o2.beside.fuse (o1.beside.fuse rfl)
  have n2 : D2.olds.length = 30 := by rw [o2.beside.len, o1.beside.len, new_len]
  have b2 := o2.good.bytes
  rw [o2.efr, o2.eto, o2.eep, o1.efr, o1.eto, o1.eep, List.nil_append] at b2
  obtain ⟨D3, L3, r3, o3⟩ := open_ok (fr := 0) (to_ := 30) (ep := ep2) o2.good.calm (by omega) (by omega) h2 f2 (recs := []) (by rw [b2]; exact told_other hne h1 h2 _ _ hsm)
  have f3 := o3.beside.fuse f2
  have b3 := o3.good.bytes
  rw [o3.efr, o3.eto, o3.eep] at b3
  obtain ⟨D4, L4, r4, o4⟩ := open_ok (fr := 0) (to_ := 30) (ep := ep) o3.good.calm (by omega) (by rw [o3.beside.len]; omega) h1 f3 (recs := []) (by rw [b3]; simpa [enc] using told_zeros h1 _)
  have n4 : D4.olds.length = 30 := by rw [o4.beside.len, o3.beside.len, n2]
  have f4 := o4.beside.fuse f3
  by_cases hm : 0 ≤ fr ∧ fr < to_ ∧ to_ ≤ 30
  · obtain ⟨m1, m2, m3⟩ := hm
    obtain ⟨f, rfl⟩ := Int.eq_ofNat_of_zero_le m1
    obtain ⟨t, rfl⟩ := Int.eq_ofNat_of_zero_le (show 0 ≤ to_ by omega)
    obtain ⟨D5, L5, r5, o5⟩ := open_ok (fr := f) (to_ := t) (ep := ep) o4.good.calm (by omega) (by omega) h1 f4 rfl
    exact ⟨D1, D2, D3, D4, D5, L1, L2, L3, L4, _, r1, r2, r3, r4, r5, o1.good.sane, fun _ => ⟨rfl, rfl⟩, fun h => absurd ⟨m1, m2, m3⟩ h⟩
  · refine ⟨D1, D2, D3, D4, D4, L1, L2, L3, L4, _, r1, r2, r3, r4, openL_bad ep (by omega), o1.good.sane, fun h => absurd h hm, fun _ => ⟨rfl, rfl⟩⟩

set_option maxRecDepth 100000 in
set_option maxHeartbeats 8000000 in
theorem other_near (v : Value) (l : List Bs) (ep : Nat) (fr to_ : Int) (W : World) (R : RowT W v l) (hl : l.length ≤ 100) (hs : ∀ t ∈ l, t.length ≤ 9223372036854775807) (he : ep < 18446744073709551616)
    (hf : -9223372036854775808 ≤ fr ∧ fr ≤ 9223372036854775807) (ht : -9223372036854775808 ≤ to_ ∧ to_ ≤ 9223372036854775807) :
    Calls Tryd.prog 3 #[v, .int .u64 ep, .int .i64 fr, .int .i64 to_] W fun e w' => e = .returned (.bool true) ∧ Below W.heap.size W w' := by
  obtain ⟨ep2, hep2, he2, hne⟩ : ∃ ep2 : Nat, IntKind.u64.wrap ((ep : Int) + 1) = (ep2 : Int) ∧ ep2 < 18446744073709551616 ∧ ep ≠ ep2 := by
    by_cases h : ep = 18446744073709551615
    · subst h; exact ⟨0, by decide, by decide, by decide⟩
    · exact ⟨ep + 1, by rw [IntWalk.u64_in _ (by omega)]; omega, by omega, by omega⟩
  obtain ⟨D1, D2, D3, D4, D5, L1, L2, L3, L4, R5, hS⟩ := other_plain he he2 hne fr to_ l
  obtain ⟨o5, t5l, x5⟩ := R5
  obtain ⟨aA, cA, rfl⟩ := R.len
  have h2 : decide (100 < l.length) = false := decide_eq_false (by omega)
  have HSH := Lib.hid (fun w => shown19 w)
  have HS := Lib.hid hS
  have HR := Lib.hid R
  have HSM := Lib.hid hs
  have HL100 := Lib.hid hl
  clear hS R hs he he2 hne
  go_enter Tryd.func3, Tryd.ntmps3
  go_wp2_with fail
  refine (made 30 (by decide) (by decide) W W (Below.refl _ _)).mono ?_
  rintro e w1 ⟨b, g, bm, rfl, h1, _⟩
  have H1 := Lib.hid h1
  clear h1
  go_wp2_with fail
  refine (HSH.out _).mono ?_
  rintro e w1' ⟨rfl, hb⟩
  have C1 := Lib.hid (at_openLog (H1.out.below hb) HS.out.r1)
  clear hb
  go_wp2_with fail
  refine C1.out.mono ?_
  rintro e w2 ⟨lb, v2, rfl, h2, t2, _⟩
  have H2 := Lib.hid h2
  clear C1 h2 t2
  have C2 := Lib.hid (cut_any (H2.out.row HR.out) (by have := HL100.out; omega) HSM.out)
  go_wp2_with fail
  refine C2.out.mono ?_
  rintro e w3 ⟨v3, rfl, t3, hb3⟩
  have H3 := Lib.hid (H2.out.below hb3)
  have C3 := Lib.hid (H3.out.append HS.out.s1 _ _ t3.row (by have := cut_len l; omega) HS.out.r2)
  clear C2 t3 hb3
  go_wp2_with fail
  refine C3.out.mono ?_
  rintro e w4 ⟨rfl, h4, _⟩
  have C4 := Lib.hid (at_openLog h4.at_ HS.out.r3)
  clear C3 h4
  go_wp2_with fail
  refine C4.out.mono ?_
  rintro e w5 ⟨lb5, v5, rfl, h5, t5, _⟩
  obtain ⟨a5, c5, rfl⟩ := t5.len
  have C5 := Lib.hid (at_openLog h5.at_ HS.out.r4)
  clear C4 h5 t5
  rw [List.length_nil]
  go_wp2_with fail
  refine C5.out.mono ?_
  rintro e w6 ⟨lb6, v6, rfl, h6, t6, _⟩
  obtain ⟨a6, c6, rfl⟩ := t6.len
  have hop := at_open h6.at_ fr to_ ep
  rw [HS.out.r5] at hop
  have C6 := Lib.hid hop
  clear C5 h6 t6 hop
  rw [List.length_nil]
  have HY := Lib.hid HS.out.yes
  have HN := Lib.hid HS.out.no
  have END : ∀ (p : Option Addr) (w7 : World), LogAt w7 w6.heap.size b p o5 → (0 ≤ fr ∧ fr < to_ ∧ to_ ≤ 30) → x5 = 0 ∧ ∃ a, p = some a := by
    intro p w7 hp hm
    obtain ⟨e1, e2⟩ := HY.out hm
    refine ⟨e1, ?_⟩
    cases o5 with
    | none => cases e2
    | some L => obtain ⟨lb, rfl, _⟩ := hp; exact ⟨_, rfl⟩
  have END0 : ∀ (p : Option Addr) (w7 : World), LogAt w7 w6.heap.size b p o5 → ¬ (0 ≤ fr ∧ fr < to_ ∧ to_ ≤ 30) → x5 = 1 ∧ p = none := by
    intro p w7 hp hm
    obtain ⟨e1, e2⟩ := HN.out hm
    have e2 : o5 = none := e2
    refine ⟨e1, ?_⟩
    subst e2
    exact hp
  have HE := Lib.hid END
  have HE0 := Lib.hid END0
  clear END END0
  by_cases m1 : 0 ≤ fr
  · by_cases m2 : fr < to_
    · by_cases m3 : to_ ≤ 30
      · go_wp2_with fail
        refine C6.out.mono ?_
        rintro e w7 ⟨p7, v7, rfl, a7, _, l7, _⟩
        obtain ⟨rfl, pa, rfl⟩ := HE.out p7 w7 l7 ⟨m1, m2, m3⟩
        have HA7 := Lib.hid a7
        clear l7 a7
        go_wp2
        go_ret
        exact ⟨rfl, HA7.out.bel⟩
      · have m4 : decide (to_ ≤ 30) = false := decide_eq_false m3
        go_wp2_with fail
        refine C6.out.mono ?_
        rintro e w7 ⟨p7, v7, rfl, a7, _, l7, _⟩
        obtain ⟨rfl, rfl⟩ := HE0.out p7 w7 l7 (fun h => by omega)
        have HA7 := Lib.hid a7
        clear l7 a7
        go_wp2
        go_ret
        exact ⟨rfl, HA7.out.bel⟩
    · go_wp2_with fail
      refine C6.out.mono ?_
      rintro e w7 ⟨p7, v7, rfl, a7, _, l7, _⟩
      obtain ⟨rfl, rfl⟩ := HE0.out p7 w7 l7 (fun h => by omega)
      have HA7 := Lib.hid a7
      clear l7 a7
      go_wp2
      go_ret
      exact ⟨rfl, HA7.out.bel⟩
  · go_wp2_with fail
    refine C6.out.mono ?_
    rintro e w7 ⟨p7, v7, rfl, a7, _, l7, _⟩
    obtain ⟨rfl, rfl⟩ := HE0.out p7 w7 l7 (fun h => by omega)
    have HA7 := Lib.hid a7
    clear l7 a7
    go_wp2
    go_ret
    exact ⟨rfl, HA7.out.bel⟩

set_option maxRecDepth 100000 in
set_option maxHeartbeats 4000000 in
theorem other_far (v : Value) (l : List Bs) (ep : Int) (fr to_ : Int) (W : World) (R : RowT W v l) (hl : 100 < l.length) :
    Calls Tryd.prog 3 #[v, .int .u64 ep, .int .i64 fr, .int .i64 to_] W fun e w' => e = .returned (.bool true) ∧ Below W.heap.size W w' := by
  obtain ⟨aA, cA, rfl⟩ := R.len
  have h2 : decide (100 < l.length) = true := decide_eq_true hl
  have HSH := Lib.hid (fun w => shown19 w)
  clear R
  go_enter Tryd.func3, Tryd.ntmps3
  go_wp2_with fail
  refine (made 30 (by decide) (by decide) W W (Below.refl _ _)).mono ?_
  rintro e w1 ⟨b, g, bm, rfl, h1, _⟩
  have H1 := Lib.hid h1
  clear h1
  go_wp2_with (go_at_call 12; refine (HSH.out _).mono ?_; rintro e w1' ⟨rfl, hb⟩)
  go_ret
  exact ⟨rfl, (H1.out.below hb).bel⟩

theorem other_walk (v : Value) (l : List ByteArray) (a1 a2 a3 : Int) (W : World) (R0 : Rd.Reads W (.sl .str) [v] l) (w1 : (Lit.int .u64 a1).wf = true) (w2 : (Lit.int .i64 a2).wf = true) (w3 : (Lit.int .i64 a3).wf = true) :
    Calls Tryd.prog 3 #[v, .int .u64 a1, .int .i64 a2, .int .i64 a3] W fun e w' => e = .returned (.bool true) ∧ Below W.heap.size W w' := by
  obtain ⟨h1, h2⟩ := Rd.row_strs R0
  have hr : RowT W v (l.map fun s => s.data.toList) := row_map h1
  obtain ⟨b0, b1⟩ := bounds_u64 w1
  obtain ⟨c0, c1⟩ := bounds_i64 w2
  obtain ⟨d0, d1⟩ := bounds_i64 w3
  obtain ⟨ep, rfl⟩ := Int.eq_ofNat_of_zero_le b0
  by_cases hl : l.length ≤ 100
  · exact other_near v _ ep a2 a3 W hr (by rw [List.length_map]; exact hl) (small_map h2) (by omega) ⟨by omega, by omega⟩ ⟨by omega, by omega⟩
  · exact other_far v _ ep a2 a3 W hr (by rw [List.length_map]; omega)
end Go.Proofs.YtoafebndlldclaaDoor.Wl
