/- The calls of the document's disk: burns, Write, Read. -/
import Derived.Test.YtoafebndlldclaaRefA
import Derived.Deep.RegionHeld3
namespace Go.Proofs.Ytoafebndlldclaa.Dk
open Go Go.RowKit Go.ChangeMaps Go.MapKept
variable {W W' : World} {B : RB} {D : DS}

def burnD (D : DS) : DS × Bool := if D.fuse = 1 then ({ D with fuse := 0, off := true }, true) else ({ D with fuse := D.fuse - 1 }, false)

set_option maxRecDepth 100000 in
set_option maxHeartbeats 1000000 in
theorem burns_any (h : IsRef W B D) : Calls Try.prog 34 #[.pointer (some ⟨B.b, 0, none⟩)] W fun e w' => e = .returned (.bool (burnD D).2) ∧ IsRef w' B (burnD D).1 ∧ Kp (FootR B) W w' := by
  have c3 := h.c3
  have f3 := h.free 3
  have f4 := h.free 4
  have hfu := h.ok.fuse
  by_cases h0 : D.fuse = 0
  · have hz : ((D.fuse : Nat) : Int) = 0 := by omega
    have HB : Hid (burnD D = (D, false)) := by
      show _ = _
      unfold burnD
      rw [if_neg (by omega)]
      rw [show ({ D with fuse := D.fuse - 1 } : DS) = D from by cases D; cases h0; rfl]
    have HI := Lib.hid h
    rw [hz] at c3
    clear h h0 hz
    go_enter Try.func34, Try.ntmps34
    go_wp2
    go_ret
    exact ⟨by rw [HB.out]; rfl, by rw [HB.out]; exact HI.out, Kp.refl _ _⟩
  · by_cases h1 : D.fuse = 1
    · have hz : ((D.fuse : Nat) : Int) = 1 := by omega
      have hs : IsRef (W.setCell ⟨B.b, 3, none⟩ (.int .i64 0)) B { D with fuse := 0 } := h.setFuse 0 (by omega)
      have h2 := hs.setOff true
      have c4 : (W.setCell ⟨B.b, 3, none⟩ (.int .i64 0)).cell? ⟨B.b, 4, none⟩ = some (.bool D.off) := hs.c4
      have c3' : (W.setCell ⟨B.b, 3, none⟩ (.int .i64 0)).cell? ⟨B.b, 3, none⟩ = some (.int .i64 0) := hs.c3
      have c3'' : ((W.setCell ⟨B.b, 3, none⟩ (.int .i64 0)).setCell ⟨B.b, 4, none⟩ (.bool true)).cell? ⟨B.b, 3, none⟩ = some (.int .i64 0) := h2.c3
      have HB : Hid (burnD D = ({ D with fuse := 0, off := true }, true)) := by
        show _ = _
        unfold burnD
        rw [if_pos h1]
      have HI := Lib.hid h2
      have HK := Lib.hid (((Kp.refl (FootR B) W).setCell (p := ⟨B.b, 3, none⟩) (.inl rfl) (.int .i64 0)).setCell (p := ⟨B.b, 4, none⟩) (.inl rfl) (.bool true))
      rw [hz] at c3
      clear h h0 hz h1 hs h2
      go_enter Try.func34, Try.ntmps34
      go_wp2
      go_ret
      exact ⟨by rw [HB.out]; rfl, by rw [HB.out]; exact HI.out, HK.out⟩
    · have hs := h.setFuse (D.fuse - 1) (by omega)
      rw [show (((D.fuse - 1 : Nat) : Int)) = (D.fuse : Int) - 1 from by omega] at hs
      have HK := Lib.hid ((Kp.refl (FootR B) W).setCell (p := ⟨B.b, 3, none⟩) (.inl rfl) (.int .i64 ((D.fuse : Int) - 1)))
      have c3' : (W.setCell ⟨B.b, 3, none⟩ (.int .i64 ((D.fuse : Int) - 1))).cell? ⟨B.b, 3, none⟩ = some (.int .i64 ((D.fuse : Int) - 1)) := World.cell?_setCell_same _ _ _ c3
      have t0 : ((D.fuse : Int) == 0) = false := beq_eq_false_iff_ne.2 (by omega)
      have t1 : ((D.fuse : Int) - 1 == 0) = false := beq_eq_false_iff_ne.2 (by omega)
      have HB : Hid (burnD D = ({ D with fuse := D.fuse - 1 }, false)) := by
        show _ = _
        unfold burnD
        rw [if_neg h1]
      have HI := Lib.hid hs
      clear h h0 h1 hs
      go_enter Try.func34, Try.ntmps34
      go_wp2
      go_ret
      exact ⟨by rw [HB.out]; rfl, by rw [HB.out]; exact HI.out, HK.out⟩

set_option maxRecDepth 100000 in
set_option maxHeartbeats 1000000 in
theorem rread_any (h : IsRef W B D) (i : Int) : Calls Try.prog 21 #[.pointer (some ⟨B.b, 0, none⟩), .int .i64 i] W fun e w' => e = .returned (.tuple #[.string ⟨(read D i).1.toArray⟩, .int .i64 (read D i).2]) ∧ W = w' := by
  have c0 := h.c0
  have c4 := h.c4
  cases ho : D.off with
  | true =>
    rw [ho] at c4
    have hw := within_off (i := i) ho
    have HR : Hid (read D i = ([], 180)) := by show _ = _; unfold read; rw [hw, if_pos (by decide)]
    clear hw ho
    go_enter Try.func21, Try.ntmps21
    go_wp2
    go_ret2
    exact ⟨by rw [HR.out]; rfl, rfl⟩
  | false =>
    rw [ho] at c4
    by_cases h1 : i < 0 ∨ (D.olds.length : Int) ≤ i
    · have hw := within_out (i := i) ho h1
      have HR : Hid (read D i = ([], 181)) := by show _ = _; unfold read; rw [hw, if_pos (by decide)]
      clear hw ho
      by_cases h2 : i < 0
      · go_enter Try.func21, Try.ntmps21
        go_wp2
        go_ret2
        exact ⟨by rw [HR.out]; rfl, rfl⟩
      · have h3 : (D.olds.length : Int) ≤ i := by omega
        clear h1
        go_enter Try.func21, Try.ntmps21
        go_wp2
        go_ret2
        exact ⟨by rw [HR.out]; rfl, rfl⟩
    · have hw := within_some (i := i) ho (by omega) (by omega)
      obtain ⟨m, rfl⟩ : ∃ m : Nat, i = m := ⟨i.toNat, by omega⟩
      have hm : m < D.olds.length := by omega
      have hm2 : m < D.news.length := by rw [h.ok.len]; exact hm
      have HR : Hid (read D m = (sect D m, 0)) := by show _ = _; unfold read; rw [hw, if_neg (by decide)]; rfl
      have c2 := h.c2
      have hmi : (m : Int) < (D.olds.length : Int) := by omega
      obtain ⟨x, hx⟩ : ∃ x, D.news[m]? = some x := ⟨_, List.getElem?_eq_getElem hm2⟩
      obtain ⟨o, hoo⟩ : ∃ x, D.olds[m]? = some x := ⟨_, List.getElem?_eq_getElem hm⟩
      have ic := h.ic hx
      have HS : Hid (sect D m = laid o x) := by show _ = _; unfold sect; rw [List.getD_eq_getElem?_getD, List.getD_eq_getElem?_getD, hx, hoo]; rfl
      clear hw ho h1 hm2
      cases x with
      | none =>
        have oc := h.oc hoo
        clear h hx hoo hm
        simp only [Option.isSome_none] at ic
        go_enter Try.func21, Try.ntmps21
        go_wp2
        go_ret2
        exact ⟨by rw [HR.out, HS.out]; rfl, rfl⟩
      | some y =>
        have c1 := h.c1
        obtain ⟨s, nc, hs⟩ := h.nc hx
        have HY := Lib.hid (hs y rfl)
        clear h hx hoo hm hs
        simp only [Option.isSome_some] at ic
        go_enter Try.func21, Try.ntmps21
        go_wp2
        go_ret2
        exact ⟨by rw [HR.out, HS.out, HY.out]; rfl, rfl⟩

theorem pad_text (s : ByteArray) : (s ++ ⟨(zeros (64 - s.size)).toArray⟩ : ByteArray) = ⟨(pad s.data.toList).toArray⟩ := by
  have h : s.data.toList.length = s.size := by rw [Array.length_toList]; rfl
  unfold pad
  rw [h]
  apply ByteArray.ext
  rw [ByteArray.data_append]
  simp

set_option maxRecDepth 100000 in
set_option maxHeartbeats 2000000 in
theorem rwrite_any (h : IsRef W B D) (i : Int) (s : ByteArray) (hs : s.size ≤ 9223372036854775807) : Calls Try.prog 20 #[.pointer (some ⟨B.b, 0, none⟩), .int .i64 i, .string s] W fun e w' => e = .returned (.int .i64 (write D i s.data.toList).2) ∧ IsRef w' B (write D i s.data.toList).1 ∧ Kp (FootR B) W w' := by
  have c0 := h.c0
  have c4 := h.c4
  have hsl : s.data.toList.length = s.size := by rw [Array.length_toList]; rfl
  cases ho : D.off with
  | true =>
    rw [ho] at c4
    have hw := within_off (i := i) ho
    have HR : Hid (write D i s.data.toList = (D, 180)) := by show _ = _; unfold write; rw [hw, if_pos (by decide)]
    have HH := Lib.hid h
    clear hw ho hsl h
    go_enter Try.func20, Try.ntmps20
    go_wp2
    go_ret
    exact ⟨by rw [HR.out]; rfl, by rw [HR.out]; exact HH.out, Kp.refl _ _⟩
  | false =>
    rw [ho] at c4
    by_cases h1 : i < 0 ∨ (D.olds.length : Int) ≤ i
    · have hw := within_out (i := i) ho h1
      have HR : Hid (write D i s.data.toList = (D, 181)) := by show _ = _; unfold write; rw [hw, if_pos (by decide)]
      have HH := Lib.hid h
      clear hw ho hsl h
      by_cases h2 : i < 0
      · go_enter Try.func20, Try.ntmps20
        go_wp2
        go_ret
        exact ⟨by rw [HR.out]; rfl, by rw [HR.out]; exact HH.out, Kp.refl _ _⟩
      · have h3 : (D.olds.length : Int) ≤ i := by omega
        clear h1
        go_enter Try.func20, Try.ntmps20
        go_wp2
        go_ret
        exact ⟨by rw [HR.out]; rfl, by rw [HR.out]; exact HH.out, Kp.refl _ _⟩
    · have hw := within_some (i := i) ho (by omega) (by omega)
      by_cases h3 : 64 < s.size
      · have HR : Hid (write D i s.data.toList = (D, 1)) := by show _ = _; unfold write; rw [hw, if_neg (by decide), if_pos (by omega)]
        have HH := Lib.hid h
        have h4 : ¬ i < 0 := by omega
        have h5 : ¬ (D.olds.length : Int) ≤ i := by omega
        clear hw ho hsl h h1
        go_enter Try.func20, Try.ntmps20
        go_wp2
        go_ret
        exact ⟨by rw [HR.out]; rfl, by rw [HR.out]; exact HH.out, Kp.refl _ _⟩
      · obtain ⟨m, rfl⟩ : ∃ m : Nat, i = m := ⟨i.toNat, by omega⟩
        have hb := burns_any h
        by_cases hf : D.fuse = 1
        · have HR : Hid (write D m s.data.toList = ({ D with fuse := 0, off := true }, 180)) := by show _ = _; unfold write; rw [hw, if_neg (by decide), if_neg (by omega)]; unfold burn; rw [if_pos hf]
          rw [show burnD D = ({ D with fuse := 0, off := true }, true) from by unfold burnD; rw [if_pos hf]] at hb
          have HB := Lib.hid hb
          have h5 : ¬ (D.olds.length : Int) ≤ (m : Int) := by omega
          clear hw ho hsl h h1 hb hf
          go_enter Try.func20, Try.ntmps20
          go_wp2_with fail
          refine HB.out.mono ?_
          rintro e w1 ⟨rfl, hi, hk⟩
          have HI := Lib.hid hi
          have HK := Lib.hid hk
          clear hi hk
          go_wp2
          go_ret
          exact ⟨by rw [HR.out]; rfl, by rw [HR.out]; exact HI.out, HK.out⟩
        · have HR : Hid (write D m s.data.toList = (put m (pad s.data.toList) { D with fuse := D.fuse - 1 }, 0)) := by show _ = _; unfold write; rw [hw, if_neg (by decide), if_neg (by omega)]; unfold burn; rw [if_neg hf]; rfl
          rw [show burnD D = ({ D with fuse := D.fuse - 1 }, false) from by unfold burnD; rw [if_neg hf]] at hb
          have HB := Lib.hid hb
          have h5 : ¬ (D.olds.length : Int) ≤ (m : Int) := by omega
          have hm2 : m < D.news.length := by rw [h.ok.len]; omega
          obtain ⟨x, hx⟩ : ∃ x, D.news[m]? = some x := ⟨_, List.getElem?_eq_getElem hm2⟩
          have HX := Lib.hid hx
          have HP := Lib.hid (pad_length (s := s.data.toList) (by omega))
          have HM := Lib.hid (show m < D.olds.length by omega)
          clear hw ho hsl h h1 hb hf hm2 hx
          go_enter Try.func20, Try.ntmps20
          go_wp2_with fail
          refine HB.out.mono ?_
          rintro e w1 ⟨rfl, hi, hk⟩
          have HI := Lib.hid hi
          have HK := Lib.hid hk
          have d1 : w1.cell? ⟨B.b, 1, none⟩ = some (.slice (some ⟨B.nb, 0, none⟩) D.olds.length B.nc) := hi.c1
          obtain ⟨s0, nc, _⟩ := hi.nc HX.out
          have fn := hi.fn m
          have hmi : (m : Int) < (D.olds.length : Int) := by have := HM.out; omega
          obtain ⟨d, hd⟩ : ∃ d : Nat, d = 64 - s.size := ⟨_, rfl⟩
          have hsz : (64 : Int) - (s.size : Int) = (d : Int) := by omega
          obtain ⟨zz, hzz, hzs⟩ := zeros_text d
          have hz : ∀ W, Calls Try.prog 33 #[.int .i64 (d : Int)] W fun e w' => e = .returned (.string zz) ∧ Below W.heap.size W w' := fun W => by
            rw [hzz]; exact rzeros_any _ (by omega) W
          have HZ := Lib.hid hz
          have HZZ := Lib.hid hzz
          have hwz : IntKind.i64.wrap (d : Int) = (d : Int) := IntWalk.i64_in _ (by omega)
          have HDD := Lib.hid hd
          have hss : s.size + zz.size ≤ 9223372036854775807 := by omega
          have hlt1 : B.b < w1.heap.size := World.block_lt_of_cell? _ _ d1
          have hlt2 : B.nb < w1.heap.size := World.block_lt_of_cell? _ _ nc
          clear hi hk c0 c4 hz hzz hd
          go_wp2_with fail
          have HN := Lib.hid nc
          have HF := Lib.hid fn
          have HD1 := Lib.hid d1
          have HL1 := Lib.hid hlt1
          have HL2 := Lib.hid hlt2
          go_region_with (go_at_call 33; refine (HZ.out _).mono ?_; rintro e w2 ⟨rfl, hb2⟩; have k1 := (hb2.cell (p := ⟨B.b, 1, none⟩) HL1.out).trans HD1.out; have k2 := (hb2.cell (p := ⟨B.nb, m, none⟩) HL2.out).trans HN.out; have k3 := (hb2.frozen (p := ⟨B.nb, m, none⟩) HL2.out).trans HF.out)
          all_goals
            have e1 : Value.string (s ++ zz) = txt (pad s.data.toList) := by rw [HZZ.out, HDD.out, pad_text]; rfl
            have hi2 := HI.out.drew.below hb2
            have hfin := hi2.setNew m HP.out
            rw [← e1] at hfin
            have hk2 := (((HK.out.drew).trans (.of_below hb2)).setCell (p := ⟨B.nb, m, none⟩) (.inr (.inr (.inl rfl))) (.string (s ++ zz))).setCell (p := ⟨B.ib, m, none⟩) (.inr (.inr (.inr rfl))) (.bool true)
            have g2 : (w2.setCell ⟨B.nb, m, none⟩ (.string (s ++ zz))).cell? ⟨B.b, 2, none⟩ = some (.slice (some ⟨B.ib, 0, none⟩) D.olds.length B.ic) := by
              rw [World.cell?_of_block (Below.heap_setCell _ _ _ _ hi2.bn)]; exact hi2.c2
            have g3 : (w2.setCell ⟨B.nb, m, none⟩ (.string (s ++ zz))).cell? ⟨B.ib, m, none⟩ = some (.bool x.isSome) := by
              rw [World.cell?_of_block (Below.heap_setCell _ _ _ _ hi2.ni.symm)]; exact hi2.ic HX.out
            have g4 : (w2.setCell ⟨B.nb, m, none⟩ (.string (s ++ zz))).frozen? ⟨B.ib, m, none⟩ = false := by
              rw [World.frozen?_of_block (Below.heap_setCell _ _ _ _ hi2.ni.symm)]; exact hi2.fi m
            have HFIN := Lib.hid hfin
            have HK2 := Lib.hid hk2
            clear hi2 hfin hk2 e1 hb2
            go_wp2
            go_ret
            exact ⟨by rw [HR.out]; rfl, by rw [HR.out]; exact HFIN.out, HK2.out⟩
end Go.Proofs.Ytoafebndlldclaa.Dk
