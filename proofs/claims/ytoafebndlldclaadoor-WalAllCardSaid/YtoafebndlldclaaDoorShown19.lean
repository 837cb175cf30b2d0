/- The call of the statements' shown (package syzygylaw19) is proved: it answers true. -/
import Derived.Test.YtoafebndlldclaaDoorLogOn
namespace Go.Proofs.YtoafebndlldclaaDoor.Wl
open Go Go.RowKit Go.Shelf Dk Fr

structure ShownIs (D1 D2 D3 D4 : DS) (L1 L2 L3 L4 : LS) : Prop where
  r1 : openL (new 4) 0 4 7 = (D1, some L1, [], 0)
  r2 : appendL D1 L1 [[97], [98]] = (D2, L2, 0)
  r3 : appendL D2 L2 [[99]] = (D3, L3, 0)
  r4 : openL D3 0 4 7 = (D4, some L4, [[97], [98], [99]], 0)
  s1 : Sane D1.olds.length L1
  s2 : Sane D2.olds.length L2
theorem shown_plain : ∃ D1 D2 D3 D4 L1 L2 L3 L4, ShownIs D1 D2 D3 D4 L1 L2 L3 L4 := by
  obtain ⟨D1, L1, r1, o1⟩ := open_ok (fr := 0) (to_ := 4) (ep := 7) (new_calm (n := 4) (by omega) (by omega)) (by omega) (by rw [new_len]; omega) (by decide) rfl (recs := []) (by rw [bytes_new 4 4 0 (by omega)]; exact told_zeros (by decide) _)
  obtain ⟨D2, L2, r2, o2⟩ := append_ok (texts := [[97], [98]]) o1.good (o1.beside.fuse rfl) (by simp) (by rw [o1.efr, o1.eto]; simp [szs])
  obtain ⟨D3, L3, r3, o3⟩ := append_ok (texts := [[99]]) o2.good (o2.beside.fuse (o1.beside.fuse rfl)) (by simp) (by rw [o2.efr, o2.eto, o1.efr, o1.eto]; simp [szs])
  obtain ⟨D4, L4, r4, o4⟩ := reopen_ok o3.good (o3.beside.fuse (o2.beside.fuse (o1.beside.fuse rfl)))
  rw [o3.efr, o3.eto, o3.eep, o2.efr, o2.eto, o2.eep, o1.efr, o1.eto, o1.eep] at r4
  exact ⟨D1, D2, D3, D4, L1, L2, L3, L4, r1, r2, r3, by simpa using r4, o1.good.sane, o2.good.sane⟩

set_option maxRecDepth 100000 in
set_option maxHeartbeats 4000000 in
theorem shown19 (W : World) : Calls Tryd.prog 12 #[] W fun e w' => e = .returned (.bool true) ∧ Below W.heap.size W w' := by
  obtain ⟨D1, D2, D3, D4, L1, L2, L3, L4, hS⟩ := shown_plain
  have HS := Lib.hid hS
  clear hS
  go_enter Tryd.func12, Tryd.ntmps12
  go_wp2_with fail
  refine (made 4 (by decide) (by decide) W W (Below.refl _ _)).mono ?_
  rintro e w1 ⟨b, g, bm, rfl, h1, _⟩
  have C1 := Lib.hid (at_openLog h1 HS.out.r1)
  clear h1
  go_wp2_with fail
  refine C1.out.mono ?_
  rintro e w2 ⟨lb, v, rfl, h2, t2, _⟩
  obtain ⟨a2, c2, rfl⟩ := t2.len
  have H2 := Lib.hid h2
  clear C1 h2 t2
  rw [List.length_nil]
  have C2 := Lib.hid ((H2.out.alloc (.cells #[.string ⟨#[97]⟩, .string ⟨#[98]⟩] 9)).append HS.out.s1 _ [[97], [98]] (row_new w2 [[97], [98]] (by simp)) (by simp) HS.out.r2)
  go_wp2_with fail
  refine C2.out.mono ?_
  rintro e w3 ⟨rfl, h3, _⟩
  have H3 := Lib.hid h3
  clear C2 h3
  have C3 := Lib.hid ((H3.out.alloc (.cells #[.string ⟨#[99]⟩] 9)).append HS.out.s2 _ [[99]] (row_new w3 [[99]] (by simp)) (by simp) HS.out.r3)
  go_wp2_with fail
  refine C3.out.mono ?_
  rintro e w4 ⟨rfl, h4, _⟩
  have H4 := Lib.hid h4
  clear C3 h4
  have C4 := Lib.hid (at_openLog H4.out.at_ HS.out.r4)
  go_wp2_with fail
  refine C4.out.mono ?_
  rintro e w5 ⟨lb5, v5, rfl, h5, t5, _⟩
  obtain ⟨a5, c5, rfl⟩ := t5.len
  have H5 := Lib.hid h5
  have T5 := Lib.hid t5
  clear C4 h5 t5
  have hb6 : Below w5.heap.size w5 (w5.alloc (.cells #[.string ⟨#[97]⟩, .string ⟨#[98]⟩, .string ⟨#[99]⟩] 9)) := (Below.refl _ _).alloc (Nat.le_refl _) _
  have C5 := Lib.hid (prefix19 (row_new w5 [[97], [98], [99]] (by simp)) ((T5.out.below hb6 (Nat.le_refl _)).row) (by simp))
  have HB6 := Lib.hid hb6
  clear hb6
  rw [show prefB [[97], [98], [99]] [[97], [98], [99]] = true from by decide] at C5
  have hlen : ([[97], [98], [99]] : List Bs).length = 3 := rfl
  rw [hlen] at C5 ⊢
  go_wp2_with fail
  refine C5.out.mono ?_
  rintro e w6 ⟨rfl, hb⟩
  go_wp2
  go_ret
  have hz := H5.out.at_.bel.size
  exact ⟨rfl, H5.out.at_.bel.trans ((HB6.out.mono hz).trans (hb.mono (Nat.le_trans hz HB6.out.size)))⟩
end Go.Proofs.YtoafebndlldclaaDoor.Wl
