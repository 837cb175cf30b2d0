/- The call of the document's disk's Sync. -/
import Derived.Test.YtoafebndlldclaaRefC
namespace Go.Proofs.Ytoafebndlldclaa.Dk
open Go Go.RowKit Go.ChangeMaps Go.MapKept
variable {W W' : World} {B : RB} {D : DS}

/-- settled up to i -/
structure Upto (D : DS) (i : Nat) (E : DS) : Prop where
  fuse : E.fuse = D.fuse
  off : E.off = D.off
  olen : E.olds.length = D.olds.length
  nlen : E.news.length = D.news.length
  old : ∀ (j : Nat) (o : Bs) (x : Option Bs), D.olds[j]? = some o → D.news[j]? = some x → E.olds[j]? = some (if j < i then laid o x else o)
  new : ∀ (j : Nat) (x : Option Bs), D.news[j]? = some x → E.news[j]? = some (if j < i then none else x)
theorem Upto.start (D : DS) : Upto D 0 D := ⟨rfl, rfl, rfl, rfl, fun j o x h1 _ => by simpa using h1, fun j x h => by simpa using h⟩
theorem Upto.skip {D E : DS} {i : Nat} (h : Upto D i E) (hx : D.news[i]? = some none) : Upto D (i + 1) E := by
  refine ⟨h.fuse, h.off, h.olen, h.nlen, fun j o x h1 h2 => ?_, fun j x h2 => ?_⟩
  · rw [h.old j o x h1 h2]
    by_cases e : j = i
    · subst e
      rw [hx] at h2
      cases h2
      simp [laid]
    · congr 1
      by_cases hl : j < i
      · rw [if_pos hl, if_pos (by omega)]
      · rw [if_neg hl, if_neg (by omega)]
  · rw [h.new j x h2]
    by_cases e : j = i
    · subst e
      rw [hx] at h2
      cases h2
      simp
    · congr 1
      by_cases hl : j < i
      · rw [if_pos hl, if_pos (by omega)]
      · rw [if_neg hl, if_neg (by omega)]
theorem Upto.step {D E : DS} {i : Nat} (h : Upto D i E) {y : Bs} (hx : D.news[i]? = some (some y)) : Upto D (i + 1) { E with olds := E.olds.set i y, news := E.news.set i none } := by
  refine ⟨h.fuse, h.off, by simp [h.olen], by simp [h.nlen], fun j o x h1 h2 => ?_, fun j x h2 => ?_⟩
  · rw [List.getElem?_set]
    by_cases e : i = j
    · subst e
      rw [hx] at h2
      cases h2
      have := (List.getElem?_eq_some_iff.1 h1).1
      rw [if_pos rfl, if_pos (by rw [h.olen]; exact this), if_pos (by omega)]
      rfl
    · rw [if_neg e, h.old j o x h1 h2]
      congr 1
      by_cases hl : j < i
      · rw [if_pos hl, if_pos (by omega)]
      · rw [if_neg hl, if_neg (by omega)]
  · rw [List.getElem?_set]
    by_cases e : i = j
    · subst e
      have := (List.getElem?_eq_some_iff.1 h2).1
      rw [if_pos rfl, if_pos (by rw [h.nlen]; exact this), if_pos (by omega)]
    · rw [if_neg e, h.new j x h2]
      congr 1
      by_cases hl : j < i
      · rw [if_pos hl, if_pos (by omega)]
      · rw [if_neg hl, if_neg (by omega)]
theorem Upto.done {D E : DS} (hD : D.Ok) (h : Upto D D.olds.length E) : E = settle D := by
  have h1 : E.olds = (settle D).olds := by
    apply List.ext_getElem?
    intro j
    by_cases hj : j < D.olds.length
    · have hn : j < D.news.length := by rw [hD.len]; exact hj
      rw [h.old j _ _ (List.getElem?_eq_getElem hj) (List.getElem?_eq_getElem hn), if_pos hj]
      simp [settle, List.getElem?_zipWith, List.getElem?_eq_getElem hj, List.getElem?_eq_getElem hn]
    · rw [List.getElem?_eq_none (by rw [h.olen]; omega), List.getElem?_eq_none (by simp [settle]; omega)]
  have h2 : E.news = (settle D).news := by
    apply List.ext_getElem?
    intro j
    by_cases hj : j < D.news.length
    · rw [h.new j _ (List.getElem?_eq_getElem hj), if_pos (by rw [← hD.len]; exact hj)]
      simp [settle, List.getElem?_eq_getElem hj]
    · rw [List.getElem?_eq_none (by rw [h.nlen]; omega), List.getElem?_eq_none (by simp [settle]; omega)]
  have h3 := h.fuse
  have h4 := h.off
  cases E
  simp only at h1 h2 h3 h4
  subst h1 h2 h3 h4
  rfl

def RSyncInv (B : RB) (D : DS) (W : World) (i : Value) (wr : World) : Prop := ∃ (j : Nat) (E : DS), i = .int .i64 j ∧ j ≤ D.olds.length ∧ Upto D j E ∧ IsRef wr B E ∧ Kp (FootR B) W wr

set_option maxRecDepth 100000 in
set_option maxHeartbeats 2000000 in
theorem rsync_any (h : IsRef W B D) : Calls Try.prog 22 #[.pointer (some ⟨B.b, 0, none⟩)] W fun e w' => e = .returned (.int .i64 (sync D).2) ∧ IsRef w' B (sync D).1 ∧ Kp (FootR B) W w' := by
  have c4 := h.c4
  cases ho : D.off with
  | true =>
    rw [ho] at c4
    have HR : Hid (sync D = (D, 180)) := by show _ = _; unfold sync; rw [if_pos ho]
    have HH := Lib.hid h
    clear ho h
    go_enter Try.func22, Try.ntmps22
    go_wp2
    go_ret
    exact ⟨by rw [HR.out]; rfl, by rw [HR.out]; exact HH.out, Kp.refl _ _⟩
  | false =>
    rw [ho] at c4
    have hb := burns_any h
    by_cases hf : D.fuse = 1
    · have HR : Hid (sync D = ({ D with fuse := 0, off := true }, 180)) := by show _ = _; unfold sync; rw [if_neg (by simp [ho])]; unfold burn; rw [if_pos hf]
      rw [show burnD D = ({ D with fuse := 0, off := true }, true) from by unfold burnD; rw [if_pos hf]] at hb
      have HB := Lib.hid hb
      clear ho h hb hf
      go_enter Try.func22, Try.ntmps22
      go_wp2_with fail
      refine HB.out.mono ?_
      rintro e w1 ⟨rfl, hi, hk⟩
      have HI := Lib.hid hi
      have HK := Lib.hid hk
      clear hi hk
      go_wp2
      go_ret
      exact ⟨by rw [HR.out]; rfl, by rw [HR.out]; exact HI.out, HK.out⟩
    · obtain ⟨D1, hD1⟩ : ∃ D1 : DS, D1 = { D with fuse := D.fuse - 1 } := ⟨_, rfl⟩
      have HR : Hid (sync D = (settle D1, 0)) := by show _ = _; unfold sync; rw [if_neg (by simp [ho])]; unfold burn; rw [if_neg hf, hD1]
      rw [show burnD D = (D1, false) from by unfold burnD; rw [if_neg hf, hD1]] at hb
      have HB := Lib.hid hb
      clear ho h hb hf hD1
      go_enter Try.func22, Try.ntmps22
      go_wp2_with fail
      refine HB.out.mono ?_
      rintro e w1 ⟨rfl, hi, hk⟩
      have HI := Lib.hid hi
      have HK := Lib.hid hk
      have HOK := Lib.hid hi.ok
      have hn4 : D1.olds.length ≤ 4096 := hi.ok.hi
      clear hi hk c4
      go_wp2_with fail
      go_loopw [3] (fun i wr => RSyncInv B D1 W i wr) (fun i _ => D1.olds.length - (intOf i).toNat)
      case atStart => exact ⟨0, D1, rfl, Nat.zero_le _, Upto.start D1, HI.out, HK.out⟩
      case round =>
        obtain ⟨j, E, rfl, hj, hup, hi, hk⟩ := hrel
        have c0 := hi.c0
        have c2 := hi.c2
        rw [hup.olen] at c0 c2
        have HUP := Lib.hid hup
        have HI2 := Lib.hid hi
        have HK2 := Lib.hid hk
        clear hup hi hk
        by_cases hlt : j < D1.olds.length
        · have hji : (j : Int) < (D1.olds.length : Int) := by omega
          have hj0 : (0 : Int) ≤ (j : Int) := by omega
          have hj4 : (j : Int) < 4096 := by omega
          have hn : j < D1.news.length := by rw [HOK.out.len]; exact hlt
          obtain ⟨x, hx⟩ : ∃ x, D1.news[j]? = some x := ⟨_, List.getElem?_eq_getElem hn⟩
          obtain ⟨o, hoo⟩ : ∃ x, D1.olds[j]? = some x := ⟨_, List.getElem?_eq_getElem hlt⟩
          have en : E.news[j]? = some x := by rw [HUP.out.new j x hx, if_neg (by omega)]
          have eo : E.olds[j]? = some o := by rw [HUP.out.old j o x hoo hx, if_neg (by omega)]
          have ic := HI2.out.ic en
          cases x with
          | none =>
            simp only [Option.isSome_none] at ic
            have HS := Lib.hid (HUP.out.skip hx)
            clear hx hoo en eo hn
            go_wp2_with fail
            go_roundw
            case rel => exact ⟨j + 1, E, by go_num, hlt, HS.out, HI2.out, HK2.out⟩
            case measure => simp [intOf]; omega
          | some y =>
            simp only [Option.isSome_some] at ic
            have HS := Lib.hid (HUP.out.step hx)
            obtain ⟨s, nc0, hs0⟩ := HI2.out.nc en
            have hs := hs0 y rfl
            rw [hs] at nc0
            have nc : wr.cell? ⟨B.nb, j, none⟩ = some (txt y) := nc0
            clear nc0 hs0 hs
            have c1 := HI2.out.c1
            rw [HUP.out.olen] at c1
            have oc := HI2.out.oc eo
            have fo := HI2.out.fo j
            have hy : y.length = 64 := HI2.out.ok.new y (List.mem_of_getElem? en)
            have h1 := HI2.out.drew.setOld j hy
            have g2 : (wr.setCell ⟨B.ob, j, none⟩ (txt y)).cell? ⟨B.b, 2, none⟩ = some (.slice (some ⟨B.ib, 0, none⟩) D1.olds.length B.ic) := by
              rw [World.cell?_of_block (Below.heap_setCell _ _ _ _ HI2.out.bo)]; exact c2
            have g3 : (wr.setCell ⟨B.ob, j, none⟩ (txt y)).cell? ⟨B.ib, j, none⟩ = some (.bool true) := by
              rw [World.cell?_of_block (Below.heap_setCell _ _ _ _ HI2.out.oi.symm)]; exact ic
            have g4 : (wr.setCell ⟨B.ob, j, none⟩ (txt y)).frozen? ⟨B.ib, j, none⟩ = false := by
              rw [World.frozen?_of_block (Below.heap_setCell _ _ _ _ HI2.out.oi.symm)]; exact HI2.out.fi j
            have h2 := h1.setNone j
            have hk3 := ((HK2.out.drew).setCell (p := ⟨B.ob, j, none⟩) (.inr (.inl rfl)) (txt y)).setCell (p := ⟨B.ib, j, none⟩) (.inr (.inr (.inr rfl))) (.bool false)
            have H2 := Lib.hid h2
            have HK3 := Lib.hid hk3
            clear hx hoo en eo hn h1 h2 hk3 hy
            obtain ⟨tt, ht⟩ : ∃ tt : ByteArray, .string tt = txt y := ⟨_, rfl⟩
            rw [← ht] at nc g2 g3 g4 H2 HK3
            clear ht
            go_wp2_with fail
            refine region_tail 13 (by kernel_rfl) (by kernel_rfl) ?_
            simp only [List.take_succ_cons, List.take_zero, List.drop_succ_cons, List.drop_zero]
            repeat still_step
            refine wpStill_nil ?_
            try go_frame
            go_wp2_with fail
            go_roundw
            case rel => exact ⟨j + 1, _, by go_num, hlt, HS.out, H2.out, HK3.out⟩
            case measure => simp [intOf]; omega
        · have hje : j = D1.olds.length := by omega
          have hnl : ¬ (j : Int) < (D1.olds.length : Int) := by omega
          rw [hje] at HUP
          go_wp2_with fail
          go_ret
          exact ⟨by rw [HR.out]; rfl, by rw [HR.out, ← HUP.out.done HOK.out]; exact HI2.out, HK2.out⟩
end Go.Proofs.Ytoafebndlldclaa.Dk
