/- The document's Add. -/
import Derived.Test.YtgdlkpfkaehebaaGreatDoorRm
set_option linter.unusedVariables false
set_option linter.unusedSimpArgs false
namespace Go.Proofs.YtgdlkpfkaehebaaGreatDoor.Rn
open Go Go.RowKit Go.Proofs.YtgdlkpfkaehebaaGreatDoorW.PrintWords Go.Proofs.YtgdlkpfkaehebaaGreatDoorW.PrintLast Go.Proofs.YtgdlkpfkaehebaaGreatDoorW.PrintMore
open Nt Lm Bs Pr Ra Do Fr Pz Dp Dq Rm

abbrev P32 : Nat := 4294967296
theorem atL_out {l : List Nat} {i : Nat} (h : l.length ≤ i) : atL l i = 0 := by unfold atL; rw [List.getD_eq_getElem?_getD, List.getElem?_eq_none h]; rfl
/-- between two rounds of Add -/
structure AddAt (X Y : List Nat) (i cy : Nat) (out : List Nat) : Prop where
  len : out.length = i
  lt : ∀ x ∈ out, x < P32
  eq : unb P32 out + P32 ^ i * (cy + unb P32 (X.drop i) + unb P32 (Y.drop i)) = unb P32 X + unb P32 Y
  car : cy ≤ 1
  pos : i ≤ max X.length Y.length ∨ (i = max X.length Y.length + 1 ∧ cy = 0)
theorem AddAt.start (X Y : List Nat) : AddAt X Y 0 0 [] := ⟨rfl, by simp, by simp [unb], by omega, .inl (by omega)⟩
theorem AddAt.next {X Y : List Nat} {i cy : Nat} {out : List Nat} (h : AddAt X Y i cy out) (hX : ∀ x ∈ X, x < P32) (hY : ∀ x ∈ Y, x < P32) (hc : i < X.length ∨ i < Y.length ∨ 0 < cy) :
    AddAt X Y (i + 1) ((atL X i + atL Y i + cy) / P32) (out ++ [(atL X i + atL Y i + cy) % P32]) := by
  have h1 := atL_lt (by decide) hX i
  have h2 := atL_lt (by decide) hY i
  have h3 := h.car
  refine ⟨by simp [h.len], ?_, add_step X Y out i cy _ h.len h.eq, ?_, ?_⟩
  · intro x hx
    rcases List.mem_append.1 hx with h1 | h1
    · exact h.lt x h1
    · have : x = (atL X i + atL Y i + cy) % P32 := by simpa using h1
      rw [this]
      exact Nat.mod_lt _ (by decide)
  · have : (atL X i + atL Y i + cy) / P32 < 2 := by
      rw [Nat.div_lt_iff_lt_mul (by decide)]
      omega
    omega
  · by_cases hm : i < max X.length Y.length
    · left; omega
    · right
      rcases h.pos with hp | hp
      · have e1 := atL_out (l := X) (i := i) (by omega)
        have e2 := atL_out (l := Y) (i := i) (by omega)
        refine ⟨by omega, ?_⟩
        rw [e1, e2]
        exact Nat.div_eq_of_lt (by show 0 + 0 + cy < 4294967296; omega)
      · omega
theorem AddAt.stop {X Y : List Nat} {i cy : Nat} {out : List Nat} (h : AddAt X Y i cy out) (h1 : X.length ≤ i) (h2 : Y.length ≤ i) (h3 : cy = 0) : unb P32 out = unb P32 X + unb P32 Y := by
  have e := h.eq
  rw [List.drop_eq_nil_of_le h1, List.drop_eq_nil_of_le h2, h3] at e
  simpa [unb] using e

set_option maxHeartbeats 4000000 in
set_option maxRecDepth 100000 in
theorem addR_call (A B : Option Addr) (c d : Nat) (a b : List Nat) (w : World) (hr : Rw w A a) (hr2 : Rw w B b) (hla : Lim a) (hlb : Lim b) (hl : a.length ≤ 900) (hl2 : b.length ≤ 900) :
    Calls Tryz.prog 33 #[.slice A a.length c, .slice B b.length d] w fun e w' => ∃ v, e = .returned v ∧ Nw w' w.heap.size v (ofN (val a + val b)) ∧ Below w.heap.size w w' := by
  have HA := Lib.hid (digits_call A c a w hr hl hla)
  have HB := Lib.hid (fun w' h => digits_call B d b w' (hr2.below (w' := w') h) hl2 hlb)
  have hX := halves_lt hla
  have hY := halves_lt hlb
  have h1 := halves_len a
  have h2 := halves_len b
  rw [← unb_halves a, ← unb_halves b]
  obtain ⟨X, hXX⟩ : ∃ X, X = halves a := ⟨_, rfl⟩
  obtain ⟨Y, hYY⟩ : ∃ X, X = halves b := ⟨_, rfl⟩
  rw [← hXX] at hX h1 HA ⊢
  rw [← hYY] at hY h2 HB ⊢
  have hxl : X.length ≤ 1800 := by omega
  have hyl : Y.length ≤ 1800 := by omega
  have HX := Lib.hid hX
  have HY := Lib.hid hY
  clear hr hr2 hla hlb h1 h2 hXX hYY hX hY
  go_enter Tryz.func33, Tryz.ntmps33
  go_wp2_with fail
  refine (HA.out).mono ?_
  rintro e w1 ⟨v, rfl, hv, hb1⟩
  obtain ⟨A1, c1, rfl, hc1, hr1⟩ := hv.open
  have HR1 := Lib.hid hr1
  have HB1 := Lib.hid hb1
  clear hv hr1 hb1
  go_wp2_with fail
  refine (HB.out w1 HB1.out).mono ?_
  rintro e w2 ⟨v, rfl, hv, hb2⟩
  obtain ⟨A2, c2, rfl, hc2, hr2⟩ := hv.open
  have HR2 := Lib.hid hr2
  have HR12 := Lib.hid (HR1.out.below hb2)
  have HB2 := Lib.hid (HB1.out.trans (hb2.mono HB1.out.size))
  clear hv hr2 hb2 HR1
  go_wp2
  go_loopw [7, 8, 9] (fun u v7 v8 wr => ∃ (i cy : Nat) (out : List Nat), v8 = .int .i64 (i : Int) ∧ v7 = .int .u64 (cy : Int) ∧ Hid (AddAt X Y i cy out) ∧ Hid (Nw wr w2.heap.size u out) ∧ Hid (Below w2.heap.size w2 wr)) (fun _ _ v _ => max X.length Y.length + 1 - (intOf v).toNat)
  case atStart => exact ⟨0, 0, [], rfl, rfl, Lib.hid (AddAt.start X Y), Lib.hid (Nw.lit0 _ _ (Nat.le_refl _)), Lib.hid (below_alloc (Below.refl _ _) _)⟩
  case round =>
    obtain ⟨i, cy, out, rfl, rfl, hA, hv, hB⟩ := hrel
    obtain ⟨A5, c5, rfl, hc5, hr5⟩ := hv.out.open
    have hcar := hA.out.car
    have hpos := hA.out.pos
    have hlen := hA.out.len
    by_cases hc : i < X.length ∨ i < Y.length ∨ 0 < cy
    · have hnx := hA.out.next HX.out HY.out hc
      have hx32 := atL_lt (by decide) HX.out i
      have hy32 := atL_lt (by decide) HY.out i
      have HAX := Lib.hid (at_call A1 c1 X i wr (HR12.out.below hB.out) (by omega) (by omega))
      have HAY := Lib.hid (at_call A2 c2 Y i wr (HR2.out.below hB.out) (by omega) (by omega))
      have him : i < max X.length Y.length + 1 := by omega
      obtain ⟨x, hx⟩ : ∃ x, x = atL X i := ⟨_, rfl⟩
      obtain ⟨y, hy⟩ : ∃ x, x = atL Y i := ⟨_, rfl⟩
      rw [← hx, ← hy] at hnx
      rw [← hx] at HAX hx32
      rw [← hy] at HAY hy32
      obtain ⟨t, ht⟩ : ∃ t, t = x + y := ⟨_, rfl⟩
      rw [← ht] at hnx
      obtain ⟨s, hs⟩ : ∃ s, s = t + cy := ⟨_, rfl⟩
      rw [← hs] at hnx
      have f1 : (x : Int) + (y : Int) = (t : Int) := by omega
      have f2 : IntKind.u64.wrap (t : Int) = (t : Int) := IntWalk.u64_in _ (by omega)
      have f3 : (t : Int) + (cy : Int) = (s : Int) := by omega
      have f4 : IntKind.u64.wrap (s : Int) = (s : Int) := IntWalk.u64_in _ (by omega)
      obtain ⟨r, hrr⟩ : ∃ r, r = s % 4294967296 := ⟨_, rfl⟩
      obtain ⟨q, hq⟩ : ∃ q, q = s / 4294967296 := ⟨_, rfl⟩
      rw [show s % P32 = r from hrr.symm, show s / P32 = q from hq.symm] at hnx
      have f5 : (s : Int) % 4294967296 = (r : Int) := by omega
      have f6 : (s : Int) / 4294967296 = (q : Int) := by omega
      have f7 : (s : Int).tmod 4294967296 = (r : Int) := by rw [Int.tmod_eq_emod_of_nonneg (by omega)]; exact f5
      have f8 : (s : Int).tdiv 4294967296 = (q : Int) := by rw [Int.tdiv_eq_ediv_of_nonneg (by omega)]; exact f6
      have f9 : IntKind.u64.wrap (q : Int) = (q : Int) := IntWalk.u64_in _ (by omega)
      have HNX := Lib.hid hnx
      have hc3 : (i : Int) < (X.length : Int) ∨ (¬ (i : Int) < (X.length : Int) ∧ (i : Int) < (Y.length : Int)) ∨ (¬ (i : Int) < (X.length : Int) ∧ ¬ (i : Int) < (Y.length : Int) ∧ 0 < (cy : Int)) := by omega
      have hi18 : i ≤ 1801 := by omega
      have HOL := Lib.hid (show out.length ≤ 4000 by omega)
      have HIM := Lib.hid him
      clear hnx hx hy ht hs hrr hq hr5 hc hpos hlen him hx32 hy32 hcar
      rcases hc3 with k1 | ⟨k1, k2⟩ | ⟨k1, k2, k3⟩
      all_goals
        go_wp2_with fail
        refine (HAX.out).mono ?_
        rintro e w' ⟨rfl, rfl⟩
        go_wp2_with fail
        refine (HAY.out).mono ?_
        rintro e w' ⟨rfl, rfl⟩
        go_wp2_with (at_builtin; refine app_n (w0 := w2) w2.heap.size rfl _ _ rfl (.slice A5 out.length c5) out [r] (some ⟨wr.heap.size, 0, none⟩) 1 rfl rfl (hv.out.below (below_alloc (Below.refl _ _) _)) (Rw.one wr r) (hB.out.alloc hB.out.size _) (by have := hB.out.size; simp; omega) (by have := HOL.out; simp; omega) ?_; intro vv w3 hv1 hb1 hg1 hat1; have HV4 := Lib.hid hv1; have HB4 := Lib.hid hb1; clear hv1 hb1 hg1 hat1)
        go_roundw
        case rel => exact ⟨i + 1, q, out ++ [r], by go_num, rfl, HNX, HV4, HB4⟩
        case measure => have := HIM.out; simp [intOf]; omega
    · have k1 : ¬ (i : Int) < (X.length : Int) := by omega
      have k2 : ¬ (i : Int) < (Y.length : Int) := by omega
      have k3 : ¬ 0 < (cy : Int) := by omega
      have e := hA.out.stop (by omega) (by omega) (by omega)
      have HW := whole_call A5 c5 out wr hr5 (by omega) hA.out.lt
      rw [show unb 4294967296 out = unb 4294967296 X + unb 4294967296 Y from e] at HW
      have HWW := Lib.hid HW
      clear e HW hr5 hpos hlen hcar hc
      go_wp2_with fail
      refine (HWW.out).mono ?_
      rintro e w3 ⟨v, rfl, hv2, hb2⟩
      have HV := Lib.hid (hv2.lower (Nat.le_trans HB2.out.size hB.out.size))
      have HB3 := Lib.hid ((HB2.out.trans (hB.out.mono HB2.out.size)).trans (hb2.mono (Nat.le_trans HB2.out.size hB.out.size)))
      clear hv2 hb2
      go_wp2_with fail
      go_ret
      exact ⟨_, rfl, HV.out, HB3.out⟩
end Go.Proofs.YtgdlkpfkaehebaaGreatDoor.Rn
