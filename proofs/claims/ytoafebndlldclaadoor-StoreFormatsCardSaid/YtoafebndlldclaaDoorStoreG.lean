/- A store on a disk of the call's own: Format and Open as calls, and the statements' shown (package syzygylaw20) answers true. -/
import Derived.Test.YtoafebndlldclaaDoorStoreM
import Derived.Test.YtoafebndlldclaaDoorSx
namespace Go.Proofs.YtoafebndlldclaaDoor.St
open Go Go.RowKit Go.Shelf Dk Fr Wl

section
variable {W w w' : World} {b g bm sb lb : Nat} {D D' : DS} {S : SS}
theorem StoreOn.at_ (h : StoreOn W w b g bm sb lb D S) : At W w b g bm D := h.log.at_
theorem StoreOn.bel (h : StoreOn W w b g bm sb lb D S) : Below W.heap.size W w := h.log.at_.bel
theorem StoreOn.foot (h : StoreOn W w b g bm sb lb D S) {k : Nat} (hk : FootS b g bm lb sb k) : W.heap.size ≤ k := by
  rcases hk with hk | rfl
  · exact h.log.foot hk
  · exact h.hsb
/-- the disk has changed, the store has not -/
theorem StoreOn.disk (h : StoreOn W w b g bm sb lb D S) (ha : At W w' b g bm D') (hk : Kp (Foot b g bm) w w') : StoreOn W w' b g bm sb lb D' S :=
  ⟨h.log.disk ha hk, (hk.block sb h.st.lt (fun hf => h.nf (.inl hf))).trans h.st, h.hsb, h.nf⟩
theorem storeOn_new {o : World} (ha : At W o b g bm D) (h : At W w b g bm D') (hsb : o.heap.size ≤ sb) (hlb : o.heap.size ≤ lb) (hne : sb ≠ lb) (h1 : IsStore w sb b (some ⟨lb, 0, none⟩) S) (h2 : IsLog w lb b S.L) : StoreOn W w b g bm sb lb D' S := by
  have hz := ha.bel.size
  have hf : ∀ k, Foot b g bm k → k < o.heap.size := fun k hk => ha.disk.lt hk
  refine ⟨⟨h, h2, by omega, fun hk => by have := hf _ hk; omega⟩, h1, by omega, ?_⟩
  rintro (hk | hk)
  · have := hf _ hk; omega
  · exact hne hk
theorem at_format (h : At W w b g bm D) (text : Bs) (ht : text.length ≤ 4611686018427387904) (hR : formatS D text = (D', some S, 0)) :
    Calls Tryd.prog 22 #[.pointer (some ⟨b, 0, none⟩), .string ⟨text.toArray⟩] w fun e w' => ∃ sb lb, e = .returned (.tuple #[.pointer (some ⟨sb, 0, none⟩), .int .i64 0]) ∧ StoreOn W w' b g bm sb lb D' S ∧ Kp (Foot b g bm) w w' := by
  refine (format_call h.disk text ht _ hR).mono ?_
  rintro e w' ⟨p, rfl, hd, hk, sb, lb, rfl, h1, h2, h3, h4, h5⟩
  exact ⟨sb, lb, rfl, storeOn_new h (h.step hd hk) h1 h2 h3 h4 h5, hk⟩
theorem at_format_no (h : At W w b g bm D) (text : Bs) (ht : text.length ≤ 4611686018427387904) {x : Int} (hR : formatS D text = (D', none, x)) :
    Calls Tryd.prog 22 #[.pointer (some ⟨b, 0, none⟩), .string ⟨text.toArray⟩] w fun e w' => e = .returned (.tuple #[.pointer none, .int .i64 x]) ∧ At W w' b g bm D' ∧ Kp (Foot b g bm) w w' := by
  refine (format_call h.disk text ht _ hR).mono ?_
  rintro e w' ⟨p, rfl, hd, hk, rfl⟩
  exact ⟨rfl, h.step hd hk, hk⟩
theorem at_sopen (h : At W w b g bm D) {snap : Bs} {recs : List Bs} (hR : openS D = (D', some S, snap, recs, 0)) :
    Calls Tryd.prog 21 #[.pointer (some ⟨b, 0, none⟩)] w fun e w' => ∃ sb lb v, e = .returned (.tuple #[.pointer (some ⟨sb, 0, none⟩), .string ⟨snap.toArray⟩, v, .int .i64 0]) ∧ StoreOn W w' b g bm sb lb D' S ∧ Texts w' w.heap.size v recs ∧ Kp (Foot b g bm) w w' := by
  refine (sopen_call h.disk _ hR).mono ?_
  rintro e w' ⟨p, v, rfl, hd, hk, ⟨sb, lb, rfl, h1, h2, h3, h4, h5⟩, ht⟩
  exact ⟨sb, lb, v, rfl, storeOn_new h (h.step hd hk) h1 h2 h3 h4 h5, ht, hk⟩
theorem at_sopen_no (h : At W w b g bm D) {x : Int} (hR : openS D = (D, none, [], [], x)) :
    Calls Tryd.prog 21 #[.pointer (some ⟨b, 0, none⟩)] w fun e w' => ∃ v, e = .returned (.tuple #[.pointer none, .string ⟨#[]⟩, v, .int .i64 x]) ∧ At W w' b g bm D ∧ Texts w' w.heap.size v [] ∧ Kp (Foot b g bm) w w' := by
  refine (sopen_call h.disk _ hR).mono ?_
  rintro e w' ⟨p, v, rfl, hd, hk, rfl, ht⟩
  exact ⟨v, rfl, h.step hd hk, ht, hk⟩
end

structure Shown20Is (D1 D2 D3 D4 D5 : DS) (S1 S2 S3 S4 S5 : SS) : Prop where
  r1 : formatS (new 16) [97] = (D1, some S1, 0)
  r2 : appendS D1 S1 [[98]] = (D2, S2, 0)
  r3 : compactS D2 S2 [99] = (D3, S3, 0)
  r4 : appendS D3 S3 [[100]] = (D4, S4, 0)
  r5 : openS D4 = (D5, some S5, [99], [[100]], 0)
  s1 : Sane D1.olds.length S1.L
  s3 : Sane D3.olds.length S3.L
  a2 : S2.slot ≤ 1
  b2 : S2.ep ≤ 1000000
theorem shown20_plain : ∃ D1 D2 D3 D4 D5 S1 S2 S3 S4 S5, Shown20Is D1 D2 D3 D4 D5 S1 S2 S3 S4 S5 := by
  have hk : slotN 16 = 4 := by decide
  obtain ⟨D1, S1, r1, g1, e1, l1⟩ := format_ok (n := 16) (by omega) (by omega) (text := [97]) (by decide) (by rw [hk]; decide)
  obtain ⟨D2, S2, r2, g2, e2, l2⟩ := g1.append_ok (texts := [[98]]) (by simp) (by rw [l1, hk]; decide)
  obtain ⟨D3, S3, r3, g3, e3, l3⟩ := g2.compact_ok (by omega) (text := [99]) (by decide) (by rw [l2, l1, hk]; decide)
  obtain ⟨D4, S4, r4, g4, e4, l4⟩ := g3.append_ok (texts := [[100]]) (by simp) (by rw [l3, l2, l1, hk]; decide)
  obtain ⟨D5, S5, r5, g5, e5, l5⟩ := g4.open_ok
  exact ⟨D1, D2, D3, D4, D5, S1, S2, S3, S4, S5, r1, r2, r3, r4, r5, g1.log.sane, g3.log.sane, g2.slot, g2.ep2⟩

set_option maxRecDepth 100000 in
set_option maxHeartbeats 8000000 in
theorem shown20 (W : World) : Calls Tryd.prog 20 #[] W fun e w' => e = .returned (.bool true) ∧ Below W.heap.size W w' := by
  obtain ⟨D1, D2, D3, D4, D5, S1, S2, S3, S4, S5, hS⟩ := shown20_plain
  have HS := Lib.hid hS
  clear hS
  go_enter Tryd.func20, Tryd.ntmps20
  go_wp2_with fail
  refine (made 16 (by decide) (by decide) W W (Below.refl _ _)).mono ?_
  rintro e w1 ⟨b, g, bm, rfl, h1, _⟩
  have C1 := Lib.hid (at_format h1 [97] (by decide) HS.out.r1)
  clear h1
  go_wp2_with fail
  refine C1.out.mono ?_
  rintro e w2 ⟨sb, lb, rfl, h2, _⟩
  have C2 := Lib.hid ((h2.alloc (.cells #[.string ⟨#[98]⟩] 9)).append HS.out.s1 _ [[98]] (row_new w2 [[98]] (by simp)) (by simp) HS.out.r2)
  clear C1 h2
  go_wp2_with fail
  refine C2.out.mono ?_
  rintro e w3 ⟨rfl, h3, _⟩
  have C3 := Lib.hid (h3.compact HS.out.a2 HS.out.b2 [99] (by decide) HS.out.r3)
  clear C2 h3
  go_wp2_with fail
  refine C3.out.mono ?_
  rintro e w4 ⟨rfl, lb4, h4, _⟩
  have C4 := Lib.hid ((h4.alloc (.cells #[.string ⟨#[100]⟩] 9)).append HS.out.s3 _ [[100]] (row_new w4 [[100]] (by simp)) (by simp) HS.out.r4)
  clear C3 h4
  go_wp2_with fail
  refine C4.out.mono ?_
  rintro e w5 ⟨rfl, h5, _⟩
  have C5 := Lib.hid (at_sopen h5.at_ HS.out.r5)
  clear C4 h5
  go_wp2_with fail
  refine C5.out.mono ?_
  rintro e w6 ⟨sb6, lb6, v6, rfl, h6, t6, _⟩
  obtain ⟨a6, c6, rfl⟩ := t6.len
  have H6 := Lib.hid h6
  have hb7 : Below w6.heap.size w6 (w6.alloc (.cells #[.string ⟨#[100]⟩] 9)) := (Below.refl _ _).alloc (Nat.le_refl _) _
  have C6 := Lib.hid (same_call ((t6.below hb7 (Nat.le_refl _)).row) (row_new w6 [[100]] (by simp)) (by simp))
  have HB7 := Lib.hid hb7
  clear C5 h6 t6 hb7
  rw [show decide (([[100]] : List Bs) = [[100]]) = true from by decide] at C6
  have hlen : ([[100]] : List Bs).length = 1 := rfl
  rw [hlen] at C6 ⊢
  go_wp2_with fail
  refine C6.out.mono ?_
  rintro e w7 ⟨rfl, hb8⟩
  have hz := H6.out.bel.size
  have HB8 := Lib.hid (H6.out.bel.trans ((HB7.out.mono hz).trans (hb8.mono (Nat.le_trans hz HB7.out.size))))
  clear hb8
  have C7 := Lib.hid (slot_call 16 (by decide) w7)
  rw [show ((slotN 16 : Nat) : Int) = 4 from by decide] at C7
  go_wp2_with fail
  refine C7.out.mono ?_
  rintro e w8 ⟨rfl, hb9⟩
  go_wp2
  go_ret
  exact ⟨rfl, HB8.out.trans (hb9.mono HB8.out.size)⟩
end Go.Proofs.YtoafebndlldclaaDoor.St
