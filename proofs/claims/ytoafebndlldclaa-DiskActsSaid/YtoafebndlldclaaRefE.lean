/- The call of the document's disk's On. -/
import Derived.Test.YtoafebndlldclaaRefD
namespace Go.Proofs.Ytoafebndlldclaa.Dk
open Go Go.RowKit Go.ChangeMaps Go.MapKept
variable {W W' : World} {B : RB} {D : DS}

/-- a row of fates, in memory that the call keeps -/
def FatesR (B : RB) (W : World) (v : Value) (l : List Int) : Prop := ∃ a cap, v = .slice a l.length cap ∧ (∀ x ∈ l, -9223372036854775808 ≤ x ∧ x ≤ 9223372036854775807) ∧ l.length ≤ 9223372036854775807 ∧
  (l ≠ [] → ∃ fb off, a = some ⟨fb, off, none⟩ ∧ fb < W.heap.size ∧ ¬ FootR B fb ∧ ∀ (j : Nat) (x : Int), l[j]? = some x → W.cell? ⟨fb, off + j, none⟩ = some (.int .i64 x))

/-- behind i sectors -/
structure OnAt (D : DS) (fates : List Int) (i : Nat) (E : DS) : Prop where
  fuse : E.fuse = D.fuse
  off : E.off = D.off
  olen : E.olds.length = D.olds.length
  nlen : E.news.length = D.news.length
  old : onL D.news ((dirty D).drop i) (fates.drop i) E.olds = onL D.news (dirty D) fates D.olds
  new : ∀ (j : Nat) (x : Option Bs), D.news[j]? = some x → E.news[j]? = some (if j ∈ (dirty D).take i then none else x)
theorem OnAt.start (D : DS) (fates : List Int) : OnAt D fates 0 D := ⟨rfl, rfl, rfl, rfl, by simp, fun j x h => by simpa using h⟩
theorem OnAt.step {D E : DS} {fates : List Int} {i a : Nat} (h : OnAt D fates i E) (ha : (dirty D)[i]? = some a) {z o : Bs} (hz : D.news[a]? = some (some z)) (ho : E.olds[a]? = some o) :
    OnAt D fates (i + 1) { E with olds := E.olds.set a (torn o z (fates.getD i 0)), news := E.news.set a none } := by
  refine ⟨h.fuse, h.off, by simp [h.olen], by simp [h.nlen], ?_, fun j x hj => ?_⟩
  · have := on_step ha hz ho h.old
    rw [List.tail_drop] at this
    rw [show (fates.drop i).headD 0 = fates.getD i 0 from by rw [List.headD_eq_head?_getD, List.head?_drop, List.getD_eq_getElem?_getD]] at this
    exact this
  · rw [List.getElem?_set, List.take_add_one, ha]
    by_cases e : a = j
    · subst e
      have := (List.getElem?_eq_some_iff.1 hj).1
      rw [if_pos rfl, if_pos (by rw [h.nlen]; exact this), if_pos (by simp)]
    · rw [if_neg e, h.new j x hj]
      congr 1
      by_cases hm : j ∈ (dirty D).take i
      · rw [if_pos hm, if_pos (by simp [hm])]
      · rw [if_neg hm, if_neg (by simp [hm]; exact fun h => e h.symm)]
theorem OnAt.done {D E : DS} {fates : List Int} (ho : D.off = true) (h : OnAt D fates (dirty D).length E) : ({ E with off := false, fuse := 0 } : DS) = (on D fates).1 := by
  have h1 := h.old
  rw [List.drop_length] at h1
  have h2 : E.news = D.news.map fun _ => none := by
    apply List.ext_getElem?
    intro j
    by_cases hj : j < D.news.length
    · rw [h.new j _ (List.getElem?_eq_getElem hj), List.take_length]
      simp only [List.getElem?_map, List.getElem?_eq_getElem hj, Option.map_some, Option.some.injEq]
      by_cases hm : j ∈ dirty D
      · rw [if_pos hm]
      · rw [if_neg hm]
        rw [dirty_mem] at hm
        cases hx : D.news[j] with
        | none => rfl
        | some s => exact absurd ⟨s, by rw [List.getElem?_eq_getElem hj, hx]⟩ hm
    · rw [List.getElem?_eq_none (by rw [h.nlen]; omega), List.getElem?_eq_none (by simp; omega)]
  unfold on
  rw [if_pos ho]
  simp only [onL] at h1
  rw [← h1, ← h2]

def ROnInv (B : RB) (D : DS) (fates : List Int) (W1 : World) (i : Value) (wr : World) : Prop := ∃ (j : Nat) (E : DS), i = .int .i64 j ∧ j ≤ (dirty D).length ∧ OnAt D fates j E ∧ IsRef wr B E ∧ Kp (FootR B) W1 wr

theorem extract_text (z : Bs) (a b : Nat) : ((⟨z.toArray⟩ : ByteArray).extract a b) = ⟨((z.drop a).take (b - a)).toArray⟩ := by
  apply ByteArray.ext
  simp
theorem whole_text (z : Bs) (h : z.length = 64) : ((⟨z.toArray⟩ : ByteArray).extract 0 64) = ⟨z.toArray⟩ := by
  rw [extract_text, List.drop_zero, List.take_of_length_le (by omega)]
theorem torn_text (o z : Bs) (n : Nat) : ((⟨(z.take n).toArray⟩ : ByteArray) ++ ⟨(o.drop n).toArray⟩) = ⟨(z.take n ++ o.drop n).toArray⟩ := by
  apply ByteArray.ext
  rw [ByteArray.data_append]
  simp

set_option maxRecDepth 100000 in
set_option maxHeartbeats 2000000 in
theorem ron_up (h : IsRef W B D) (ho : D.off = false) (v : Value) : Calls Try.prog 25 #[.pointer (some ⟨B.b, 0, none⟩), v] W fun e w' => e = .returned (.int .i64 5) ∧ W = w' := by
  have c4 := h.c4
  rw [ho] at c4
  clear h ho
  go_enter Try.func25, Try.ntmps25
  go_wp2
  go_ret
  exact ⟨rfl, rfl⟩

set_option maxRecDepth 100000 in
set_option maxHeartbeats 4000000 in
theorem ron_off (h : IsRef W B D) (ho : D.off = true) (v : Value) (fates : List Int) (hv : FatesR B W v fates) :
    Calls Try.prog 25 #[.pointer (some ⟨B.b, 0, none⟩), v] W fun e w' => e = .returned (.int .i64 0) ∧ IsRef w' B (on D fates).1 ∧ Kp (FootR B) W w' := by
  have c4 := h.c4
  rw [ho] at c4
  obtain ⟨fa, fcap, rfl, hfr, hfl, hfc⟩ := hv
  have HD := Lib.hid (rdirty_any h)
  have HH := Lib.hid h
  have HO := Lib.hid ho
  have HFR := Lib.hid hfr
  have HFC := Lib.hid hfc
  clear h ho hfr hfc
  go_enter Try.func25, Try.ntmps25
  go_wp2_with fail
  refine HD.out.mono ?_
  rintro e W1 ⟨dv, rfl, hown, hbel⟩
  obtain ⟨g, A, c, rfl, hA, hcell⟩ := row_slice hown
  have hglt : 0 < (dirty D).length → W.heap.size ≤ g ∧ g < W1.heap.size := fun h => hown.lt g (by rw [hA h]; rfl)
  have HGLT := Lib.hid hglt
  have HA := Lib.hid hA
  have HCELL := Lib.hid hcell
  have HBEL := Lib.hid hbel
  clear hown hbel c4 hA hcell hglt
  go_wp2_with fail
  go_loopw [6, 7, 8, 9] (fun i _ _ _ wr => ROnInv B D fates W1 i wr) (fun i _ _ _ _ => (dirty D).length - (intOf i).toNat)
  case atStart => exact ⟨0, D, rfl, Nat.zero_le _, OnAt.start D fates, HH.out.below HBEL.out, Kp.refl _ _⟩
  case round =>
    obtain ⟨j, E, rfl, hj, hon, hi, hk⟩ := hrel
    have HON := Lib.hid hon
    have HI := Lib.hid hi
    have HK := Lib.hid hk
    clear hon hi hk
    have hd4 : (dirty D).length ≤ 4096 := by
      have h1 : (dirty D).length ≤ D.news.length := dirtyFrom_length D.news 0
      have h2 := HH.out.ok.len
      have h3 := HH.out.ok.hi
      omega
    by_cases hlt : j < (dirty D).length
    · obtain ⟨a, ha⟩ : ∃ a, (dirty D)[j]? = some a := ⟨_, List.getElem?_eq_getElem hlt⟩
      obtain ⟨z, hz⟩ := dirty_mem.1 (List.mem_of_getElem? ha)
      have ham : a ∉ (dirty D).take j := by
        intro hm
        obtain ⟨i, hi, e⟩ := List.mem_iff_getElem.1 hm
        have hs := dirtyFrom_sorted (l := D.news) (k := 0)
        rw [List.length_take] at hi
        rw [List.getElem_take] at e
        have e2 : (dirty D)[j] = a := (List.getElem?_eq_some_iff.1 ha).2
        have := List.pairwise_iff_getElem.1 hs i j (by show i < (dirty D).length; omega) hlt (by omega)
        simp only [dirty] at e e2
        omega
      have en : E.news[a]? = some (some z) := by rw [HON.out.new a _ hz, if_neg ham]
      have hal : a < E.olds.length := by rw [← HI.out.ok.len]; exact (List.getElem?_eq_some_iff.1 en).1
      obtain ⟨o, eo⟩ : ∃ o, E.olds[a]? = some o := ⟨_, List.getElem?_eq_getElem hal⟩
      have hz64 : z.length = 64 := HI.out.ok.new z (List.mem_of_getElem? en)
      have ho64 : o.length = 64 := HI.out.ok.old o (List.mem_of_getElem? eo)
      obtain ⟨zt, hzt, hzs⟩ : ∃ t : ByteArray, t = ⟨z.toArray⟩ ∧ t.size = 64 := ⟨_, rfl, by show z.toArray.size = 64; simp [hz64]⟩
      obtain ⟨ot, hot, hos⟩ : ∃ t : ByteArray, t = ⟨o.toArray⟩ ∧ t.size = 64 := ⟨_, rfl, by show o.toArray.size = 64; simp [ho64]⟩
      obtain ⟨s0, nc0, hs0⟩ := HI.out.nc en
      have nc : wr.cell? ⟨B.nb, a, none⟩ = some (.string zt) := by rw [nc0, hs0 z rfl, hzt]
      have oc : wr.cell? ⟨B.ob, a, none⟩ = some (.string ot) := by rw [HI.out.oc eo, hot]; rfl
      have fo := HI.out.fo a
      have c0 := HI.out.c0
      have c1 := HI.out.c1
      have c2 := HI.out.c2
      have hal4 : a < 4096 := by have := HI.out.ok.hi; omega
      have hai : (a : Int) < (E.olds.length : Int) := by omega
      have ha0 : (0 : Int) ≤ (a : Int) := by omega
      have hji : (j : Int) < ((dirty D).length : Int) := by omega
      have hj0 : (0 : Int) ≤ (j : Int) := by omega
      have hj4 : (j : Int) < 4096 := by omega
      obtain rfl := HA.out (by omega)
      have hg := HGLT.out (by omega)
      have gc : wr.cell? ⟨g, j, none⟩ = some (.int .i64 (a : Nat)) := (HK.out.cell (p := ⟨g, j, none⟩) hg.2 (fun hf => by have := HH.out.lt hf; have h1 := hg.1; simp at this; omega)).trans (HCELL.out j _ (by simp [ints, ha]))
      have HS := Lib.hid (HON.out.step ha hz eo)
      have hfin : ∀ (X : ByteArray) (x : Bs), X = ⟨x.toArray⟩ → x.length = 64 → IsRef (((wr.setCell ⟨B.ob, a, none⟩ (.string X)).setCell ⟨B.ib, a, none⟩ (.bool false)).drew) B { E with olds := E.olds.set a x, news := E.news.set a none } ∧ Kp (FootR B) W1 (((wr.setCell ⟨B.ob, a, none⟩ (.string X)).setCell ⟨B.ib, a, none⟩ (.bool false)).drew) := fun X x hX hx => by
        subst hX
        exact ⟨((HI.out.setOld a hx).setNone a).drew, ((HK.out.setCell (p := ⟨B.ob, a, none⟩) (.inr (.inl rfl)) _).setCell (p := ⟨B.ib, a, none⟩) (.inr (.inr (.inr rfl))) _).drew⟩
      have HF := Lib.hid hfin
      have HZT := Lib.hid hzt
      have HOT := Lib.hid hot
      have HZ64 := Lib.hid hz64
      have HO64 := Lib.hid ho64
      have HEN := Lib.hid en
      have HEO := Lib.hid eo
      have g2 : ∀ X, (wr.setCell ⟨B.ob, a, none⟩ (.string X)).cell? ⟨B.b, 2, none⟩ = some (.slice (some ⟨B.ib, 0, none⟩) E.olds.length B.ic) := fun X => by
        rw [World.cell?_of_block (Below.heap_setCell _ _ _ _ HI.out.bo)]; exact c2
      have g3 : ∀ X, (wr.setCell ⟨B.ob, a, none⟩ (.string X)).cell? ⟨B.ib, a, none⟩ = some (.bool true) := fun X => by
        rw [World.cell?_of_block (Below.heap_setCell _ _ _ _ HI.out.oi.symm)]; exact HI.out.ic en
      have g4 : ∀ X, (wr.setCell ⟨B.ob, a, none⟩ (.string X)).frozen? ⟨B.ib, a, none⟩ = false := fun X => by
        rw [World.frozen?_of_block (Below.heap_setCell _ _ _ _ HI.out.oi.symm)]; exact HI.out.fi a
      clear ha hz ham en eo nc0 hs0 hfin hzt hot hz64 ho64 hlt hj hg hal
      by_cases hjf : j < fates.length
      · obtain ⟨f, hf⟩ : ∃ f, fates[j]? = some f := ⟨_, List.getElem?_eq_getElem hjf⟩
        have hne : fates ≠ [] := by rintro rfl; simp at hf
        obtain ⟨fb, off, rfl, k1, k2, k3⟩ := HFC.out hne
        have fc : wr.cell? ⟨fb, off + j, none⟩ = some (.int .i64 f) := (((Kp.of_below HBEL.out).trans HK.out).cell (p := ⟨fb, off + j, none⟩) k1 k2).trans (k3 j f hf)
        have hfr := HFR.out f (List.mem_of_getElem? hf)
        obtain ⟨hf1, hf2⟩ := hfr
        have hgd : fates.getD j 0 = f := by rw [List.getD_eq_getElem?_getD, hf]; rfl
        rw [hgd] at HS
        have hjfi : (j : Int) < (fates.length : Int) := by omega
        clear hf hne k1 k2 k3 hgd hjf
        by_cases h1 : f = 1
        · subst h1
          clear hf1 hf2
          go_wp2_with fail
          refine region_tail 25 (by kernel_rfl) (by kernel_rfl) ?_
          simp only [List.take_succ_cons, List.take_zero, List.drop_succ_cons, List.drop_zero]
          repeat still_step
          refine wpStill_nil ?_
          try go_frame
          go_wp2_with fail
          go_roundw
          case rel =>
            have hR := HF.out (zt.extract 0 64) (torn o z 1) (by rw [HZT.out, whole_text _ HZ64.out, torn_all HO64.out HZ64.out]) (torn_length _ HO64.out HZ64.out)
            exact ⟨j + 1, _, by go_num, by omega, HS.out, hR.1, hR.2⟩
          case measure => simp [intOf]; omega
        · by_cases h2 : 1 < f
          · have hw2 : IntKind.i64.wrap (f - 2) = f - 2 := IntWalk.i64_in _ (by omega)
            have htm : (f - 2).tmod 64 = (f - 2) % 64 := Int.tmod_eq_emod_of_nonneg (by omega)
            obtain ⟨n, hn⟩ : ∃ n : Nat, (f - 2) % 64 = n := ⟨((f - 2) % 64).toNat, by omega⟩
            have hn64 : n < 64 := by omega
            have hwn : IntKind.i64.wrap (n : Int) = (n : Int) := IntWalk.i64_in _ (by omega)
            have hn0 : (0 : Int) ≤ (n : Int) := by omega
            have hn65 : (n : Int) ≤ 64 := by omega
            have hn66 : n ≤ 64 := by omega
            have hes : (zt.extract 0 n).size + (ot.extract n 64).size ≤ 9223372036854775807 := by simp only [ByteArray.size_extract]; omega
            skip
            go_wp2_with fail
            refine region_tail 25 (by kernel_rfl) (by kernel_rfl) ?_
            simp only [List.take_succ_cons, List.take_zero, List.drop_succ_cons, List.drop_zero]
            repeat still_step
            refine wpStill_nil ?_
            try go_frame
            go_wp2_with fail
            go_roundw
            case rel =>
              have hR := HF.out (zt.extract 0 n ++ ot.extract n 64) (torn o z f) (by rw [HZT.out, HOT.out, extract_text, extract_text, List.drop_zero, Nat.sub_zero, torn_part HZ64.out h2, hn, Int.toNat_natCast, List.length_take, HZ64.out, Nat.min_eq_left (by omega), List.take_of_length_le (l := o.drop n) (by rw [List.length_drop, HO64.out]; omega)]; exact torn_text _ _ _) (torn_length _ HO64.out HZ64.out)
              exact ⟨j + 1, _, by go_num, by omega, HS.out, hR.1, hR.2⟩
            case measure => simp [intOf]; omega
          · have h3 : decide (1 < f) = false := decide_eq_false h2
            skip
            go_wp2_with fail
            refine region_tail 25 (by kernel_rfl) (by kernel_rfl) ?_
            simp only [List.take_succ_cons, List.take_zero, List.drop_succ_cons, List.drop_zero]
            repeat still_step
            refine wpStill_nil ?_
            try go_frame
            go_wp2_with fail
            go_roundw
            case rel =>
              have hR := HF.out (ot.extract 0 64) (torn o z f) (by rw [HOT.out, whole_text _ HO64.out, torn_none _ _ h1 (by omega)]) (torn_length _ HO64.out HZ64.out)
              exact ⟨j + 1, _, by go_num, by omega, HS.out, hR.1, hR.2⟩
            case measure => simp [intOf]; omega
      · have hgd : fates.getD j 0 = 0 := by rw [List.getD_eq_getElem?_getD, List.getElem?_eq_none (by omega)]; rfl
        rw [hgd] at HS
        have hjfi : ¬ (j : Int) < (fates.length : Int) := by omega
        clear hgd hjf
        go_wp2_with fail
        refine region_tail 25 (by kernel_rfl) (by kernel_rfl) ?_
        simp only [List.take_succ_cons, List.take_zero, List.drop_succ_cons, List.drop_zero]
        repeat still_step
        refine wpStill_nil ?_
        try go_frame
        go_wp2_with fail
        go_roundw
        case rel =>
          have hR := HF.out (ot.extract 0 64) (torn o z 0) (by rw [HOT.out, whole_text _ HO64.out, torn_none _ _ (by decide) (by decide)]) (torn_length _ HO64.out HZ64.out)
          exact ⟨j + 1, _, by go_num, by omega, HS.out, hR.1, hR.2⟩
        case measure => simp [intOf]; omega
    · have hje : j = (dirty D).length := by omega
      have hnl : ¬ (j : Int) < ((dirty D).length : Int) := by omega
      have h1 := HI.out.setOff false
      have h2 := h1.setFuse 0 (by omega)
      rw [hje] at HON
      have h3 := HON.out.done HO.out
      have c4 := HI.out.c4
      have f4 := HI.out.free 4
      have c3 : (wr.setCell ⟨B.b, 4, none⟩ (.bool false)).cell? ⟨B.b, 3, none⟩ = some (.int .i64 E.fuse) := h1.c3
      have f3 : (wr.setCell ⟨B.b, 4, none⟩ (.bool false)).frozen? ⟨B.b, 3, none⟩ = false := h1.free 3
      have hkk := (HK.out.setCell (p := ⟨B.b, 4, none⟩) (.inl rfl) (.bool false)).setCell (p := ⟨B.b, 3, none⟩) (.inl rfl) (.int .i64 (0 : Nat))
      have H2 := Lib.hid h2
      have H3 := Lib.hid h3
      have HKK := Lib.hid hkk
      clear h1 h2 h3 hkk hlt
      go_wp2_with fail
      go_ret
      exact ⟨rfl, by rw [← H3.out]; exact H2.out, (Kp.of_below HBEL.out).trans HKK.out⟩

theorem ron_any (h : IsRef W B D) (v : Value) (fates : List Int) (hv : FatesR B W v fates) : Calls Try.prog 25 #[.pointer (some ⟨B.b, 0, none⟩), v] W fun e w' => e = .returned (.int .i64 (on D fates).2) ∧ IsRef w' B (on D fates).1 ∧ Kp (FootR B) W w' := by
  cases ho : D.off with
  | true =>
    have h2 : (on D fates).2 = 0 := by unfold on; rw [if_pos ho]
    rw [h2]
    exact ron_off h ho v fates hv
  | false =>
    have h2 : on D fates = (D, 5) := by unfold on; rw [if_neg (by simp [ho])]
    rw [h2]
    refine (ron_up h ho v).mono ?_
    rintro e w' ⟨he, rfl⟩
    exact ⟨he, h, Kp.refl _ _⟩
end Go.Proofs.Ytoafebndlldclaa.Dk
