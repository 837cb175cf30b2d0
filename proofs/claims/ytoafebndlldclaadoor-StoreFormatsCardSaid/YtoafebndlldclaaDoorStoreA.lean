/- The calls of the store's found and put are proved: they do what foundD and putS do. -/
import Derived.Test.YtoafebndlldclaaDoorTxtA
import Derived.Test.YtoafebndlldclaaDoorPr3
import Derived.Test.YtoafebndlldclaaDoorStoreP
import Derived.WalkMore
namespace Go.Proofs.YtoafebndlldclaaDoor.St
open Go Go.RowKit Go.Shelf Dk Fr Wl Go.Proofs.YtoafebndlldclaaDoor.PAll Go.Proofs.YtoafebndlldclaaDoorW.PrintWords Go.Proofs.YtoafebndlldclaaDoorW.PrintLast
variable {w : World} {b g bm : Nat} {D : DS}

theorem slot_call (n : Nat) (hn : n ≤ 1000000) (w : World) : Calls Tryd.prog 27 #[.int .i64 n] w fun e w' => e = .returned (.int .i64 (slotN n : Nat)) ∧ Below w.heap.size w w' := by
  refine (store_Slot.calls _ ((slotN n : Nat) : Int) w ?_).mono fun e w' ⟨he, hd⟩ => ⟨he, hd.below⟩
  unfold store_Slot.f slotN
  by_cases h1 : n < 8
  · rw [if_pos (by omega), if_pos (by omega)]; rfl
  · by_cases h2 : 4096 < n
    · rw [if_neg (by omega), if_pos (by omega), if_pos (by omega)]; rfl
    · rw [if_neg (by omega), if_neg (by omega), if_neg (by omega), Int.tdiv_eq_ediv_of_nonneg (by omega), wrap_ok (by omega) (by omega)]
      congr 1
theorem first_call (s : Bs) (hs : s.length ≤ 1000000) (w : World) : Calls Tryd.prog 72 #[.string ⟨s.toArray⟩] w fun e w' =>
    e = .returned (.tuple #[.agg #[.int .u64 (firstL s).1, .int .u64 (firstL s).2.1, .string ⟨(firstL s).2.2.1.toArray⟩], .string ⟨(firstL s).2.2.2.1.toArray⟩, .int .i64 (firstL s).2.2.2.2]) ∧ Below w.heap.size w w' := by
  have h := Pure.first_some ⟨s.toArray⟩ (by rw [ba_size']; omega)
  rw [show (⟨s.toArray⟩ : ByteArray).data.toList = s from by simp] at h
  exact guard_First.calls _ _ _ _ _ _ w h

/-- the best snapshot so far -/
def bestOf (a b : Nat × Bs) : Nat → Nat × Bs × Int
  | 0 => (0, [], -1)
  | 1 => if 0 < a.1 then (a.1, a.2, 0) else (0, [], -1)
  | _ => pick2 a b
theorem best_one (a b : Nat × Bs) : bestOf a b 1 = if (bestOf a b 0).1 < a.1 then (a.1, a.2, 0) else bestOf a b 0 := rfl
theorem best_two (a b : Nat × Bs) : bestOf a b 2 = if (bestOf a b 1).1 < b.1 then (b.1, b.2, 1) else bestOf a b 1 := by
  unfold bestOf pick2
  by_cases h : 0 < a.1
  · simp only [h, if_true]
  · simp only [h, if_false]

structure FAt (w : World) (b g bm : Nat) (D : DS) (x : Nat × Bs × Int) (wr : World) : Prop where
  disk : IsDisk wr b g bm D
  best : wr.heap[w.heap.size]? = some (.cells #[.int .u64 x.1, .int .u64 x.1, .string ⟨x.2.1.toArray⟩] 100 (0, 0))
  bel : Below w.heap.size w wr
theorem FAt.below {x : Nat × Bs × Int} {wr w' : World} (h : FAt w b g bm D x wr) (hk : Below wr.heap.size wr w') : FAt w b g bm D x w' :=
  ⟨h.disk.below hk, (hk.block _ (Array.getElem?_eq_some_iff.1 h.best).1).trans h.best, h.bel.trans (hk.mono h.bel.size)⟩
theorem FAt.set {x : Nat × Bs × Int} {wr : World} (h : FAt w b g bm D x wr) (hw : ∀ k, Foot b g bm k → k < w.heap.size) (q : Nat) (s : Bs) (c : Int) :
    FAt w b g bm D (q, s, c) (((wr.setCell ⟨w.heap.size, 0, none⟩ (.int .u64 q)).setCell ⟨w.heap.size, 1, none⟩ (.int .u64 q)).setCell ⟨w.heap.size, 2, none⟩ (.string ⟨s.toArray⟩)) := by
  have hk : Kp (fun k => k = w.heap.size) wr (((wr.setCell ⟨w.heap.size, 0, none⟩ (.int .u64 q)).setCell ⟨w.heap.size, 1, none⟩ (.int .u64 q)).setCell ⟨w.heap.size, 2, none⟩ (.string ⟨s.toArray⟩)) :=
    (((Kp.refl (fun k => k = w.heap.size) wr).setCell (p := ⟨w.heap.size, 0, none⟩) rfl _).setCell (p := ⟨w.heap.size, 1, none⟩) rfl _).setCell (p := ⟨w.heap.size, 2, none⟩) rfl _
  have e0 := heap_setCell_same _ w.heap.size 0 _ _ (.int .u64 q) h.best
  have e1 := heap_setCell_same _ w.heap.size 1 _ _ (.int .u64 q) e0
  have e2 := heap_setCell_same _ w.heap.size 2 _ _ (.string ⟨s.toArray⟩) e1
  refine ⟨h.disk.same hk.size (fun k hf => hk.block k (h.disk.lt hf) (fun e => by have := hw k hf; omega)), ?_, h.bel.trans (hk.below (fun k e => by omega) h.bel.size)⟩
  simpa using e2
theorem FAt.store {x : Nat × Bs × Int} {wr : World} (h : FAt w b g bm D x wr) (hw : ∀ k, Foot b g bm k → k < w.heap.size) (o : Obj) (q : Nat) (s : Bs) (c : Int) :
    FAt w b g bm D (q, s, c) ((((wr.alloc o).setCell ⟨w.heap.size, 0, none⟩ (.int .u64 q)).setCell ⟨w.heap.size, 1, none⟩ (.int .u64 q)).setCell ⟨w.heap.size, 2, none⟩ (.string ⟨s.toArray⟩)) :=
  (h.below ((Below.refl _ wr).alloc (Nat.le_refl _) o)).set hw q s c

structure FIn (w : World) (b g bm : Nat) (D : DS) (x : Nat × Bs × Int) (bb fr j : Nat) (wr : World) : Prop where
  at_ : FAt w b g bm D x wr
  bld : Lib.IsBuilderF TB TU bb bb (Lib.byteCells (bytesOf D fr j)) wr
  lt : w.heap.size < bb

set_option maxRecDepth 100000 in
set_option maxHeartbeats 8000000 in
theorem found_aux (h : IsDisk w b g bm D) (hup : D.off = false) (R : Nat × Bs × Int) (hR : foundD D = R) :
    Calls Tryd.prog 56 #[.pointer (some ⟨b, 0, none⟩)] w fun e w' => e = .returned (.tuple #[.agg #[.int .u64 R.1, .int .u64 R.1, .string ⟨R.2.1.toArray⟩], .int .i64 R.2.2]) ∧ Below w.heap.size w w' := by
  have hn4 := h.ok.hi
  obtain ⟨n, hn⟩ : ∃ n, n = D.olds.length := ⟨_, rfl⟩
  obtain ⟨k, hk⟩ : ∃ k, k = slotN n := ⟨_, rfl⟩
  have hk2 : 2 * k ≤ n ∧ k ≤ 1024 := by rw [hk]; unfold slotN; split <;> omega
  obtain ⟨sa, hsa⟩ : ∃ sa, sa = snapOf (bytesOf D 0 k) := ⟨_, rfl⟩
  obtain ⟨sb, hsb⟩ : ∃ sb, sb = snapOf (bytesOf D k k) := ⟨_, rfl⟩
  have hR2 : bestOf sa sb 2 = R := by rw [← hR, hsa, hsb, hk, hn]; rfl
  have HL := Lib.hid (fun W (hd : IsDisk W b g bm D) => len_any hd)
  have HSC := Lib.hid (fun W => slot_call n (by omega) W)
  rw [← hn] at HL hn4
  rw [← hk] at HSC
  have HN := Lib.hid hn
  have HK := Lib.hid hk
  have HSA := Lib.hid hsa
  have HSB := Lib.hid hsb
  have HR2 := Lib.hid hR2
  have HH := Lib.hid h
  have HUP := Lib.hid hup
  obtain ⟨k2n, k1024⟩ := hk2
  have i0 : ∀ w, (Instr.index 132 (.agg #[.int .i64 0, .int .i64 k]) (.int .i64 0)).run Tryd.prog w = .ok (.int .i64 0) w := fun _ => by kernel_rfl
  have i1 : ∀ w, (Instr.index 132 (.agg #[.int .i64 0, .int .i64 k]) (.int .i64 1)).run Tryd.prog w = .ok (.int .i64 k) w := fun _ => by kernel_rfl
  clear hn hk hsa hsb hR2 hR h hup
  go_enter Tryd.func56, Tryd.ntmps56
  go_wp2
  go_step3
  go_wp2_with fail
  refine (HL.out _ (HH.out.alloc _)).mono ?_
  rintro e w1 ⟨rfl, rfl⟩
  go_wp2_with fail
  refine (HSC.out _).mono ?_
  rintro e w1 ⟨rfl, hb1⟩
  have H1 : Hid (FAt w b g bm D (bestOf sa sb 0) w1) := by
    have h0 : FAt w b g bm D (bestOf sa sb 0) (w.alloc (.cells #[.int .u64 0, .int .u64 0, .string ⟨#[]⟩] 100)) := ⟨HH.out.alloc _, new_alloc _ _ rfl, (Below.refl _ _).alloc (Nat.le_refl _) _⟩
    exact h0.below hb1
  clear hb1
  go_wp2
  go_step3
  go_wp2
  go_loopw [3, 21] (fun at_ i wr => ∃ j : Nat, i = .int .i64 j ∧ j ≤ 2 ∧ at_ = .int .i64 (bestOf sa sb j).2.2 ∧ FAt w b g bm D (bestOf sa sb j) wr) (fun _ i _ => 2 - (intOf i).toNat)
  case atStart => exact ⟨0, rfl, by omega, rfl, H1.out.below ((Below.refl _ _).alloc (Nat.le_refl _) _)⟩
  case round =>
    obtain ⟨j, rfl, hj, rfl, hfa⟩ := hrel
    by_cases hj0 : j = 0
    · subst hj0
      obtain ⟨wo, hwo⟩ : ∃ wo : World, wo = wr := ⟨_, rfl⟩
      subst hwo
      obtain ⟨⟨b1, b2, b3⟩, hbe⟩ : ∃ x, bestOf sa sb 0 = x := ⟨_, rfl⟩
      rw [hbe] at hfa
      rw [hbe]
      have HFA := Lib.hid hfa
      have HBE := Lib.hid hbe
      clear hfa hbe
      go_wp2
      have hbl : Hid (FIn w b g bm D (b1, b2, b3) wo.heap.size 0 0 (wo.alloc (.cells #[.pointer none, .slice none 0 0] 86))) :=
        ⟨HFA.out.below ((Below.refl _ _).alloc (Nat.le_refl _) _), .inl ⟨Nat.le_refl _, .slice none 0 0, new_alloc _ _ rfl, World.ownsRowF_nil _ _ _ _, by simp [Value.ownBlock]⟩, (Array.getElem?_eq_some_iff.1 HFA.out.best).1⟩
      go_loopw [26] (fun i wq => ∃ q : Nat, i = .int .i64 q ∧ q ≤ k ∧ FIn w b g bm D (b1, b2, b3) wo.heap.size 0 q wq) (fun i _ => k - (intOf i).toNat)
      case atStart => exact ⟨0, rfl, Nat.zero_le _, hbl.out⟩
      case round =>
        obtain ⟨q, rfl, hq, hin⟩ := hrel
        have HIN := Lib.hid hin
        clear hin
        by_cases hqk : q < k
        · have hN := HN.out
          obtain ⟨fq, hfq⟩ : ∃ fq, fq = 0 + q := ⟨_, rfl⟩
          have hw0 : within D (fq : Int) = 0 := within_some HUP.out (by omega) (by omega)
          have hrd : Dk.read D (fq : Int) = (sect D fq, 0) := by unfold Dk.read; rw [if_neg (by rw [hw0]; simp), Int.toNat_natCast]
          have hra := read_any HIN.out.at_.disk (fq : Int)
          rw [hrd] at hra
          have h64 : (sect D fq).length = 64 := sect_length HIN.out.at_.disk.ok (by omega)
          obtain ⟨tt, htt, hts⟩ : ∃ x : ByteArray, x = ⟨(sect D fq).toArray⟩ ∧ x.size = 64 := ⟨_, rfl, by show (sect D fq).toArray.size = 64; simp [h64]⟩
          rw [← htt, show ((fq : Nat) : Int) = (q : Int) from by omega] at hra
          have hbl2 := bytesOf_length HIN.out.at_.disk.ok q 0 (by omega)
          have hcat : Lib.byteCells (bytesOf D 0 q) ++ Lib.strCells tt = Lib.byteCells (bytesOf D 0 (q + 1)) := by
            rw [bytesOf_snoc, ← hfq, htt]
            simp [Lib.byteCells, Lib.strCells]
          have HRA := Lib.hid hra
          have HCAT := Lib.hid hcat
          have HB2 := Lib.hid hbl2
          clear hN hw0 hrd hra h64 htt hbl2 hcat hfq
          go_wp2_with fail
          refine HRA.out.mono ?_
          rintro e w3 ⟨rfl, hb3⟩
          have hlt3 : wo.heap.size < wr.heap.size := by
            rcases HIN.out.bld with z | z
            · exact z.lt
            · exact z.lt
          have hbd3 := builder_same (Y := w3) HIN.out.bld (fun k' o hB ho _ => (hb3.block k' (Array.getElem?_eq_some_iff.1 ho).1).trans ho)
          have hws := writeString_any wo.heap.size wo.heap.size _ tt w3 hbd3 (by rw [Lib.byteCells_length, HB2.out]; omega) (Nat.le_trans (Nat.le_of_lt hlt3) hb3.size)
          rw [HCAT.out] at hws
          have HWS := Lib.hid hws
          have HA3 := Lib.hid (HIN.out.at_.below hb3)
          have HZ3 := Lib.hid (show wo.heap.size ≤ w3.heap.size from Nat.le_trans (Nat.le_of_lt hlt3) hb3.size)
          clear hws hbd3 hlt3 hb3
          go_wp2_with fail
          refine HWS.out.mono ?_
          rintro e w4 ⟨rfl, hb4, hbl4⟩
          have hlt := HIN.out.lt
          have hfat : FAt w b g bm D (b1, b2, b3) w4 := ⟨HA3.out.disk.same hbl4.size (fun k' hk' => hbl4.block k' (by have := HH.out.lt hk'; omega)), (hbl4.block _ hlt).trans HA3.out.best, HA3.out.bel.trans (hbl4.mono (by omega))⟩
          have HB4 := Lib.hid hb4
          have HFAT := Lib.hid hfat
          clear hb4 hbl4 hfat
          go_wp2
          go_roundw
          case rel =>
            repeat apply Exists.intro
            refine ⟨?_, rfl⟩
            exact ⟨q + 1, by go_num, hqk, HFAT.out, .inr HB4.out, hlt⟩
          case measure => simp [intOf]; omega
        · obtain rfl : q = k := by omega
          have hlt := HIN.out.lt
          have hzr : wo.heap.size ≤ wr.heap.size := by
            rcases HIN.out.bld with z | z
            · exact Nat.le_of_lt z.lt
            · exact Nat.le_of_lt z.lt
          have hbl2 := bytesOf_length HIN.out.at_.disk.ok q 0 (by have := HN.out; omega)
          have HST := Lib.hid (string_any wo.heap.size wo.heap.size _ wr HIN.out.bld hzr)
          obtain ⟨s, hs⟩ : ∃ s, s = bytesOf D 0 q := ⟨_, rfl⟩
          rw [← hs] at HST hbl2
          obtain ⟨⟨f1, f2, f3, f4, f5⟩, hff⟩ : ∃ x, firstL s = x := ⟨_, rfl⟩
          have hfc : ∀ W, _ := fun W => first_call s (by omega) W
          rw [hff] at hfc
          have HFC := Lib.hid hfc
          have HS := Lib.hid hs
          have HFF := Lib.hid hff
          have HZR := Lib.hid hzr
          clear hfc hs hff hzr hbl2
          go_wp2_with fail
          refine HST.out.mono ?_
          rintro e w5 ⟨rfl, _, hbl5⟩
          have hfat5 : FAt w b g bm D (b1, b2, b3) w5 := ⟨HIN.out.at_.disk.same hbl5.size (fun k' hk' => hbl5.block k' (by have := HH.out.lt hk'; omega)), (hbl5.block _ hlt).trans HIN.out.at_.best, HIN.out.at_.bel.trans (hbl5.mono (by omega))⟩
          have HF5 := Lib.hid hfat5
          clear hbl5 hfat5
          go_wp2_with fail
          refine (HFC.out _).mono ?_
          rintro e w6 ⟨rfl, hb6⟩
          have HF6 := Lib.hid (HF5.out.below hb6)
          clear hb6
          have hnx : ∀ x, (if b1 < (snapOf s).1 then ((snapOf s).1, (snapOf s).2, (0 : Int)) else (b1, b2, b3)) = x → bestOf sa sb 1 = x := by
            intro x hx
            rw [best_one, HBE.out, HSA.out]
            rw [HS.out] at hx
            exact hx
          have hsn : snapOf s = if f5 = 0 ∧ f1 = f2 then (f2, f3) else (0, []) := by unfold snapOf; rw [HFF.out]
          have HNX := Lib.hid hnx
          have HSN := Lib.hid hsn
          clear hnx hsn
          have hlt6 : w.heap.size < w6.heap.size := (Array.getElem?_eq_some_iff.1 HF6.out.best).1
          have d0 : ∀ o, (w6.alloc o).cell? ⟨w.heap.size, 0, none⟩ = some (.int .u64 b1) := fun o => (World.cell?_alloc_lt w6 o _ hlt6).trans (cell_of_row w6 w.heap.size 0 _ _ _ HF6.out.best)
          have d1 : ∀ o, (w6.alloc o).cell? ⟨w.heap.size, 1, none⟩ = some (.int .u64 b1) := fun o => (World.cell?_alloc_lt w6 o _ hlt6).trans (cell_of_row w6 w.heap.size 1 _ _ _ HF6.out.best)
          have d2 : ∀ o, (w6.alloc o).cell? ⟨w.heap.size, 2, none⟩ = some (.string ⟨b2.toArray⟩) := fun o => (World.cell?_alloc_lt w6 o _ hlt6).trans (cell_of_row w6 w.heap.size 2 _ _ _ HF6.out.best)
          have z0 : ∀ o, (w6.alloc o).frozen? ⟨w.heap.size, 0, none⟩ = false := fun o => (World.frozen?_alloc_past o _ _ hlt6).trans (frozen_of_row w6 w.heap.size 0 _ _ HF6.out.best)
          have z1 : ∀ o, (w6.alloc o).frozen? ⟨w.heap.size, 1, none⟩ = false := fun o => (World.frozen?_alloc_past o _ _ hlt6).trans (frozen_of_row w6 w.heap.size 1 _ _ HF6.out.best)
          have z2 : ∀ o, (w6.alloc o).frozen? ⟨w.heap.size, 2, none⟩ = false := fun o => (World.frozen?_alloc_past o _ _ hlt6).trans (frozen_of_row w6 w.heap.size 2 _ _ HF6.out.best)
          clear hlt6
          by_cases h5 : f5 = 0
          · subst h5
            by_cases h12 : f1 = f2
            · subst h12
              by_cases hgt : b1 < f1
              · have hx := HNX.out (f1, f3, 0) (by rw [HSN.out]; simp [hgt])
                have HX := Lib.hid hx
                clear hx
                go_wp2
                refine ⟨⟨1, rfl, by omega, by rw [HX.out], ?_⟩, by simp [intOf]⟩
                rw [HX.out]
                exact HF6.out.store (fun k hk => HH.out.lt hk) _ f1 f3 0
              · have hx := HNX.out (b1, b2, b3) (by rw [HSN.out]; simp [hgt])
                have HX := Lib.hid hx
                clear hx
                go_wp2
                refine ⟨⟨1, rfl, by omega, by rw [HX.out], ?_⟩, by simp [intOf]⟩
                rw [HX.out]
                exact HF6.out.below ((Below.refl _ _).alloc (Nat.le_refl _) _)
            · have hx := HNX.out (b1, b2, b3) (by rw [HSN.out]; simp [h12])
              have HX := Lib.hid hx
              clear hx
              go_wp2
              refine ⟨⟨1, rfl, by omega, by rw [HX.out], ?_⟩, by simp [intOf]⟩
              rw [HX.out]
              exact HF6.out.below ((Below.refl _ _).alloc (Nat.le_refl _) _)
          · have hx := HNX.out (b1, b2, b3) (by rw [HSN.out]; simp [h5])
            have HX := Lib.hid hx
            clear hx
            go_wp2
            refine ⟨⟨1, rfl, by omega, by rw [HX.out], ?_⟩, by simp [intOf]⟩
            rw [HX.out]
            exact HF6.out.below ((Below.refl _ _).alloc (Nat.le_refl _) _)
    · by_cases hj1 : j = 1
      · subst hj1
        obtain ⟨wo, hwo⟩ : ∃ wo : World, wo = wr := ⟨_, rfl⟩
        subst hwo
        obtain ⟨⟨b1, b2, b3⟩, hbe⟩ : ∃ x, bestOf sa sb 1 = x := ⟨_, rfl⟩
        rw [hbe] at hfa
        rw [hbe]
        have HFA := Lib.hid hfa
        have HBE := Lib.hid hbe
        clear hfa hbe
        go_wp2
        have hbl : Hid (FIn w b g bm D (b1, b2, b3) wo.heap.size k 0 (wo.alloc (.cells #[.pointer none, .slice none 0 0] 86))) :=
          ⟨HFA.out.below ((Below.refl _ _).alloc (Nat.le_refl _) _), .inl ⟨Nat.le_refl _, .slice none 0 0, new_alloc _ _ rfl, World.ownsRowF_nil _ _ _ _, by simp [Value.ownBlock]⟩, (Array.getElem?_eq_some_iff.1 HFA.out.best).1⟩
        go_loopw [26] (fun i wq => ∃ q : Nat, i = .int .i64 q ∧ q ≤ k ∧ FIn w b g bm D (b1, b2, b3) wo.heap.size k q wq) (fun i _ => k - (intOf i).toNat)
        case atStart => exact ⟨0, rfl, Nat.zero_le _, hbl.out⟩
        case round =>
          obtain ⟨q, rfl, hq, hin⟩ := hrel
          have HIN := Lib.hid hin
          clear hin
          by_cases hqk : q < k
          · have hN := HN.out
            obtain ⟨fq, hfq⟩ : ∃ fq, fq = k + q := ⟨_, rfl⟩
            have hw0 : within D (fq : Int) = 0 := within_some HUP.out (by omega) (by omega)
            have hrd : Dk.read D (fq : Int) = (sect D fq, 0) := by unfold Dk.read; rw [if_neg (by rw [hw0]; simp), Int.toNat_natCast]
            have hra := read_any HIN.out.at_.disk (fq : Int)
            rw [hrd] at hra
            have h64 : (sect D fq).length = 64 := sect_length HIN.out.at_.disk.ok (by omega)
            obtain ⟨tt, htt, hts⟩ : ∃ x : ByteArray, x = ⟨(sect D fq).toArray⟩ ∧ x.size = 64 := ⟨_, rfl, by show (sect D fq).toArray.size = 64; simp [h64]⟩
            rw [← htt, show ((fq : Nat) : Int) = (k : Int) + (q : Int) from by omega] at hra
            have hbl2 := bytesOf_length HIN.out.at_.disk.ok q k (by omega)
            have hcat : Lib.byteCells (bytesOf D k q) ++ Lib.strCells tt = Lib.byteCells (bytesOf D k (q + 1)) := by
              rw [bytesOf_snoc, ← hfq, htt]
              simp [Lib.byteCells, Lib.strCells]
            have HRA := Lib.hid hra
            have HCAT := Lib.hid hcat
            have HB2 := Lib.hid hbl2
            clear hN hw0 hrd hra h64 htt hbl2 hcat hfq
            go_wp2_with fail
            refine HRA.out.mono ?_
            rintro e w3 ⟨rfl, hb3⟩
            have hlt3 : wo.heap.size < wr.heap.size := by
              rcases HIN.out.bld with z | z
              · exact z.lt
              · exact z.lt
            have hbd3 := builder_same (Y := w3) HIN.out.bld (fun k' o hB ho _ => (hb3.block k' (Array.getElem?_eq_some_iff.1 ho).1).trans ho)
            have hws := writeString_any wo.heap.size wo.heap.size _ tt w3 hbd3 (by rw [Lib.byteCells_length, HB2.out]; omega) (Nat.le_trans (Nat.le_of_lt hlt3) hb3.size)
            rw [HCAT.out] at hws
            have HWS := Lib.hid hws
            have HA3 := Lib.hid (HIN.out.at_.below hb3)
            have HZ3 := Lib.hid (show wo.heap.size ≤ w3.heap.size from Nat.le_trans (Nat.le_of_lt hlt3) hb3.size)
            clear hws hbd3 hlt3 hb3
            go_wp2_with fail
            refine HWS.out.mono ?_
            rintro e w4 ⟨rfl, hb4, hbl4⟩
            have hlt := HIN.out.lt
            have hfat : FAt w b g bm D (b1, b2, b3) w4 := ⟨HA3.out.disk.same hbl4.size (fun k' hk' => hbl4.block k' (by have := HH.out.lt hk'; omega)), (hbl4.block _ hlt).trans HA3.out.best, HA3.out.bel.trans (hbl4.mono (by omega))⟩
            have HB4 := Lib.hid hb4
            have HFAT := Lib.hid hfat
            clear hb4 hbl4 hfat
            go_wp2
            go_roundw
            case rel =>
              repeat apply Exists.intro
              refine ⟨?_, rfl⟩
              exact ⟨q + 1, by go_num, hqk, HFAT.out, .inr HB4.out, hlt⟩
            case measure => simp [intOf]; omega
          · obtain rfl : q = k := by omega
            have hlt := HIN.out.lt
            have hzr : wo.heap.size ≤ wr.heap.size := by
              rcases HIN.out.bld with z | z
              · exact Nat.le_of_lt z.lt
              · exact Nat.le_of_lt z.lt
            have hbl2 := bytesOf_length HIN.out.at_.disk.ok q q (by have := HN.out; omega)
            have HST := Lib.hid (string_any wo.heap.size wo.heap.size _ wr HIN.out.bld hzr)
            obtain ⟨s, hs⟩ : ∃ s, s = bytesOf D q q := ⟨_, rfl⟩
            rw [← hs] at HST hbl2
            obtain ⟨⟨f1, f2, f3, f4, f5⟩, hff⟩ : ∃ x, firstL s = x := ⟨_, rfl⟩
            have hfc : ∀ W, _ := fun W => first_call s (by omega) W
            rw [hff] at hfc
            have HFC := Lib.hid hfc
            have HS := Lib.hid hs
            have HFF := Lib.hid hff
            have HZR := Lib.hid hzr
            clear hfc hs hff hzr hbl2
            go_wp2_with fail
            refine HST.out.mono ?_
            rintro e w5 ⟨rfl, _, hbl5⟩
            have hfat5 : FAt w b g bm D (b1, b2, b3) w5 := ⟨HIN.out.at_.disk.same hbl5.size (fun k' hk' => hbl5.block k' (by have := HH.out.lt hk'; omega)), (hbl5.block _ hlt).trans HIN.out.at_.best, HIN.out.at_.bel.trans (hbl5.mono (by omega))⟩
            have HF5 := Lib.hid hfat5
            clear hbl5 hfat5
            go_wp2_with fail
            refine (HFC.out _).mono ?_
            rintro e w6 ⟨rfl, hb6⟩
            have HF6 := Lib.hid (HF5.out.below hb6)
            clear hb6
            have hnx : ∀ x, (if b1 < (snapOf s).1 then ((snapOf s).1, (snapOf s).2, (1 : Int)) else (b1, b2, b3)) = x → bestOf sa sb 2 = x := by
              intro x hx
              rw [best_two, HBE.out, HSB.out]
              rw [HS.out] at hx
              exact hx
            have hsn : snapOf s = if f5 = 0 ∧ f1 = f2 then (f2, f3) else (0, []) := by unfold snapOf; rw [HFF.out]
            have HNX := Lib.hid hnx
            have HSN := Lib.hid hsn
            clear hnx hsn
            have hlt6 : w.heap.size < w6.heap.size := (Array.getElem?_eq_some_iff.1 HF6.out.best).1
            have d0 : ∀ o, (w6.alloc o).cell? ⟨w.heap.size, 0, none⟩ = some (.int .u64 b1) := fun o => (World.cell?_alloc_lt w6 o _ hlt6).trans (cell_of_row w6 w.heap.size 0 _ _ _ HF6.out.best)
            have d1 : ∀ o, (w6.alloc o).cell? ⟨w.heap.size, 1, none⟩ = some (.int .u64 b1) := fun o => (World.cell?_alloc_lt w6 o _ hlt6).trans (cell_of_row w6 w.heap.size 1 _ _ _ HF6.out.best)
            have d2 : ∀ o, (w6.alloc o).cell? ⟨w.heap.size, 2, none⟩ = some (.string ⟨b2.toArray⟩) := fun o => (World.cell?_alloc_lt w6 o _ hlt6).trans (cell_of_row w6 w.heap.size 2 _ _ _ HF6.out.best)
            have z0 : ∀ o, (w6.alloc o).frozen? ⟨w.heap.size, 0, none⟩ = false := fun o => (World.frozen?_alloc_past o _ _ hlt6).trans (frozen_of_row w6 w.heap.size 0 _ _ HF6.out.best)
            have z1 : ∀ o, (w6.alloc o).frozen? ⟨w.heap.size, 1, none⟩ = false := fun o => (World.frozen?_alloc_past o _ _ hlt6).trans (frozen_of_row w6 w.heap.size 1 _ _ HF6.out.best)
            have z2 : ∀ o, (w6.alloc o).frozen? ⟨w.heap.size, 2, none⟩ = false := fun o => (World.frozen?_alloc_past o _ _ hlt6).trans (frozen_of_row w6 w.heap.size 2 _ _ HF6.out.best)
            clear hlt6
            by_cases h5 : f5 = 0
            · subst h5
              by_cases h12 : f1 = f2
              · subst h12
                by_cases hgt : b1 < f1
                · have hx := HNX.out (f1, f3, 1) (by rw [HSN.out]; simp [hgt])
                  have HX := Lib.hid hx
                  clear hx
                  go_wp2
                  refine ⟨⟨2, rfl, by omega, by rw [HX.out], ?_⟩, by simp [intOf]⟩
                  rw [HX.out]
                  exact HF6.out.store (fun k hk => HH.out.lt hk) _ f1 f3 1
                · have hx := HNX.out (b1, b2, b3) (by rw [HSN.out]; simp [hgt])
                  have HX := Lib.hid hx
                  clear hx
                  go_wp2
                  refine ⟨⟨2, rfl, by omega, by rw [HX.out], ?_⟩, by simp [intOf]⟩
                  rw [HX.out]
                  exact HF6.out.below ((Below.refl _ _).alloc (Nat.le_refl _) _)
              · have hx := HNX.out (b1, b2, b3) (by rw [HSN.out]; simp [h12])
                have HX := Lib.hid hx
                clear hx
                go_wp2
                refine ⟨⟨2, rfl, by omega, by rw [HX.out], ?_⟩, by simp [intOf]⟩
                rw [HX.out]
                exact HF6.out.below ((Below.refl _ _).alloc (Nat.le_refl _) _)
            · have hx := HNX.out (b1, b2, b3) (by rw [HSN.out]; simp [h5])
              have HX := Lib.hid hx
              clear hx
              go_wp2
              refine ⟨⟨2, rfl, by omega, by rw [HX.out], ?_⟩, by simp [intOf]⟩
              rw [HX.out]
              exact HF6.out.below ((Below.refl _ _).alloc (Nat.le_refl _) _)
      · obtain rfl : j = 2 := by omega
        have hr2 := HR2.out
        rw [hr2] at hfa
        rw [hr2]
        clear hr2
        have d0 : wr.cell? ⟨w.heap.size, 0, none⟩ = some (.int .u64 R.1) := cell_of_row wr w.heap.size 0 _ _ _ hfa.best
        have d1 : wr.cell? ⟨w.heap.size, 1, none⟩ = some (.int .u64 R.1) := cell_of_row wr w.heap.size 1 _ _ _ hfa.best
        have d2 : wr.cell? ⟨w.heap.size, 2, none⟩ = some (.string ⟨R.2.1.toArray⟩) := cell_of_row wr w.heap.size 2 _ _ _ hfa.best
        have z0 : wr.frozen? ⟨w.heap.size, 0, none⟩ = false := frozen_of_row wr w.heap.size 0 _ _ hfa.best
        have z1 : wr.frozen? ⟨w.heap.size, 1, none⟩ = false := frozen_of_row wr w.heap.size 1 _ _ hfa.best
        have z2 : wr.frozen? ⟨w.heap.size, 2, none⟩ = false := frozen_of_row wr w.heap.size 2 _ _ hfa.best
        have HFA := Lib.hid hfa
        clear hfa
        go_wp2
        rw [Exit.noGoto_ret]
        have hs := HFA.out.set (fun k hk => HH.out.lt hk) R.1 R.2.1 R.2.2
        revert hs
        generalize (((wr.setCell _ _).setCell _ _).setCell _ _) = wf
        intro hs
        have g0 : wf.cell? ⟨w.heap.size, 0, none⟩ = some (.int .u64 R.1) := cell_of_row wf w.heap.size 0 _ _ _ hs.best
        have g1 : wf.cell? ⟨w.heap.size, 1, none⟩ = some (.int .u64 R.1) := cell_of_row wf w.heap.size 1 _ _ _ hs.best
        have g2 : wf.cell? ⟨w.heap.size, 2, none⟩ = some (.string ⟨R.2.1.toArray⟩) := cell_of_row wf w.heap.size 2 _ _ _ hs.best
        refine bodyPost_ret (v := .tuple #[.agg #[.int .u64 R.1, .int .u64 R.1, .string ⟨R.2.1.toArray⟩], .int .i64 R.2.2]) (by simp [results, Tryd.results56, go_sem, g0, g1, g2]) rfl ⟨rfl, hs.bel⟩
end Go.Proofs.YtoafebndlldclaaDoor.St
