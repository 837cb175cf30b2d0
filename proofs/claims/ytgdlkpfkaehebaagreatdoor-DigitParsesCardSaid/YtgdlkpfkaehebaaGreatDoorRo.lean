/- The document's Mul. -/
import Derived.Test.YtgdlkpfkaehebaaGreatDoorRn
set_option linter.unusedVariables false
set_option linter.unusedSimpArgs false
namespace Go.Proofs.YtgdlkpfkaehebaaGreatDoor.Ro
open Go Go.RowKit Go.Proofs.YtgdlkpfkaehebaaGreatDoorW.PrintWords Go.Proofs.YtgdlkpfkaehebaaGreatDoorW.PrintLast Go.Proofs.YtgdlkpfkaehebaaGreatDoorW.PrintMore
open Nt Lm Bs Pr Ra Do Fr Pz Dp Dq Rm Rn

theorem digit_le (b : Nat) (l : List Nat) (p : Nat) : b ^ p * atL l p ≤ unb b l := by
  by_cases h : p < l.length
  · have e : unb b l = unb b (l.take p) + b ^ p * unb b (l.drop p) := by
      have := unb_append b (l.take p) (l.drop p)
      rw [List.take_append_drop, List.length_take, Nat.min_eq_left (by omega)] at this
      exact this
    rw [e, unb_drop_at]
    have : b ^ p * atL l p ≤ b ^ p * (atL l p + b * unb b (l.drop (p + 1))) := Nat.mul_le_mul_left _ (by omega)
    omega
  · rw [atL_out (by omega)]
    omega
theorem take_unb {b : Nat} {l : List Nat} {i : Nat} (h : i < l.length) : unb b (l.take (i + 1)) = unb b (l.take i) + b ^ i * atL l i := by
  rw [take_at h, unb_append, List.length_take, Nat.min_eq_left (by omega)]
  simp [unb]
/-- between two rows -/
structure MulR (X Y : List Nat) (i : Nat) (L : List Nat) : Prop where
  len : L.length = X.length + Y.length + 1
  lt : ∀ x ∈ L, x < P32
  eq : unb P32 L = unb P32 (X.take i) * unb P32 Y
/-- in a row, between two digits -/
structure RowR (X Y : List Nat) (i k cy : Nat) (L : List Nat) : Prop where
  len : L.length = X.length + Y.length + 1
  lt : ∀ x ∈ L, x < P32
  eq : unb P32 L + P32 ^ (i + k) * (cy + atL X i * unb P32 (Y.drop k)) = unb P32 (X.take (i + 1)) * unb P32 Y
  car : cy < P32
  pos : k ≤ Y.length ∨ (k = Y.length + 1 ∧ cy = 0)
theorem MulR.start (X Y : List Nat) : MulR X Y 0 (List.replicate (X.length + Y.length + 1) 0) :=
  ⟨by simp, fun x hx => by rw [List.eq_of_mem_replicate hx]; decide, by rw [unb_zeros]; simp [unb]⟩
theorem MulR.row {X Y L : List Nat} {i : Nat} (h : MulR X Y i L) (hi : i < X.length) : RowR X Y i 0 0 L := by
  refine ⟨h.len, h.lt, ?_, by decide, .inl (by omega)⟩
  rw [h.eq, take_unb hi, Nat.add_mul, List.drop_zero, Nat.add_zero, Nat.zero_add, Nat.mul_assoc]
theorem RowR.done {X Y L : List Nat} {i k cy : Nat} (h : RowR X Y i k cy L) (h1 : Y.length ≤ k) (h2 : cy = 0) : MulR X Y (i + 1) L := by
  refine ⟨h.len, h.lt, ?_⟩
  have e := h.eq
  rw [List.drop_eq_nil_of_le h1, h2] at e
  simpa [unb] using e
theorem RowR.next {X Y L : List Nat} {i k cy : Nat} (h : RowR X Y i k cy L) (hX : ∀ x ∈ X, x < P32) (hY : ∀ x ∈ Y, x < P32) (hi : i < X.length) (hc : k < Y.length ∨ 0 < cy) :
    RowR X Y i (k + 1) ((atL L (i + k) + atL X i * atL Y k + cy) / P32) (L.set (i + k) ((atL L (i + k) + atL X i * atL Y k + cy) % P32)) ∧ i + k < L.length ∧ atL L (i + k) < P32 ∧ atL X i * atL Y k ≤ 4294967295 * 4294967295 := by
  have hx := atL_lt (by decide) hX i
  have hy := atL_lt (by decide) hY k
  have hl := atL_lt (by decide) h.lt (i + k)
  have hcy := h.car
  have hm : atL X i * atL Y k ≤ 4294967295 * 4294967295 := Nat.mul_le_mul (by have : P32 = 4294967296 := rfl; omega) (by have : P32 = 4294967296 := rfl; omega)
  have hlen : i + k < L.length := by have := h.len; rcases h.pos with hp | hp <;> omega
  refine ⟨⟨by rw [List.length_set]; exact h.len, set_lt h.lt _ _ (Nat.mod_lt _ (by decide)), ?_, ?_, ?_⟩, hlen, hl, hm⟩
  · have h1 := set_step P32 L (i + k) (atL X i * atL Y k) cy hlen
    have h2 := h.eq
    rw [unb_drop_at P32 Y k] at h2
    rw [← h2]
    generalize unb P32 (Y.drop (k + 1)) = U at *
    generalize atL X i = x at *
    generalize atL Y k = y at *
    generalize (atL L (i + k) + x * y + cy) / P32 = q at *
    generalize unb P32 (L.set (i + k) ((atL L (i + k) + x * y + cy) % P32)) = S at *
    rw [show i + (k + 1) = i + k + 1 from rfl, Nat.mul_add, ← Nat.add_assoc, h1, Nat.mul_add, Nat.pow_succ, Nat.mul_add, Nat.mul_add]
    have e1 : P32 ^ (i + k) * P32 * (x * U) = P32 ^ (i + k) * (x * (P32 * U)) := by
      rw [Nat.mul_assoc]
      congr 1
      rw [← Nat.mul_assoc, Nat.mul_comm P32 x, Nat.mul_assoc]
    rw [e1, Nat.mul_add (P32 ^ (i + k)) (x * y)]
    omega
  · rw [Nat.div_lt_iff_lt_mul (by decide)]
    have e32 : P32 = 4294967296 := rfl
    show _ < 4294967296 * 4294967296
    omega
  · by_cases hk : k < Y.length
    · left; omega
    · right
      rcases h.pos with hp | hp
      · refine ⟨by omega, ?_⟩
        obtain rfl : k = Y.length := by omega
        have e := h.eq
        rw [List.drop_length] at e
        have hT : unb P32 (X.take (i + 1)) * unb P32 Y < P32 ^ (i + Y.length + 1) := by
          have h1 : unb P32 (X.take (i + 1)) < P32 ^ (i + 1) := by
            have := unb_lt (b := P32) (l := X.take (i + 1)) (fun x hx => hX x (List.mem_of_mem_take hx))
            rw [List.length_take, Nat.min_eq_left (by omega)] at this
            exact this
          have h2 : unb P32 Y < P32 ^ Y.length := unb_lt hY
          rw [show i + Y.length + 1 = (i + 1) + Y.length by omega, Nat.pow_add]
          exact Nat.mul_lt_mul'' h1 h2
        have hd := digit_le P32 L (i + Y.length)
        have e0 : atL Y Y.length = 0 := atL_out (Nat.le_refl _)
        have hlt : P32 ^ (i + Y.length) * (atL L (i + Y.length) + cy) < P32 ^ (i + Y.length) * P32 := by
          rw [← Nat.pow_succ, Nat.mul_add]
          simp only [unb, Nat.mul_zero, Nat.add_zero] at e
          have h3 : P32 ^ (i + Y.length).succ = P32 ^ (i + Y.length + 1) := rfl
          omega
        have h4 := Nat.lt_of_mul_lt_mul_left hlt
        rw [e0]
        exact Nat.div_eq_of_lt (by simpa using h4)
      · omega

set_option maxHeartbeats 8000000 in
set_option maxRecDepth 100000 in
theorem mulR_call (A B : Option Addr) (c d : Nat) (a b : List Nat) (w : World) (hr : Rw w A a) (hr2 : Rw w B b) (hla : Lim a) (hlb : Lim b) (hl : a.length ≤ 400) (hl2 : b.length ≤ 400) :
    Calls Tryz.prog 34 #[.slice A a.length c, .slice B b.length d] w fun e w' => ∃ v, e = .returned v ∧ Nw w' w.heap.size v (ofN (val a * val b)) ∧ Below w.heap.size w w' := by
  have HA := Lib.hid (digits_call A c a w hr (by omega) hla)
  have HB := Lib.hid (fun w' h => digits_call B d b w' (hr2.below (w' := w') h) (by omega) hlb)
  have hX := halves_lt hla
  have hY := halves_lt hlb
  have h1 := halves_len a
  have h2 := halves_len b
  rw [← unb_halves a, ← unb_halves b]
  obtain ⟨X, hXX⟩ : ∃ X, X = halves a := ⟨_, rfl⟩
  obtain ⟨Y, hYY⟩ : ∃ X, X = halves b := ⟨_, rfl⟩
  rw [← hXX] at hX h1 HA ⊢
  rw [← hYY] at hY h2 HB ⊢
  have hxl : X.length ≤ 800 := by omega
  have hyl : Y.length ≤ 800 := by omega
  have HX := Lib.hid hX
  have HY := Lib.hid hY
  clear hr hr2 hla hlb h1 h2 hXX hYY hX hY
  go_enter Tryz.func34, Tryz.ntmps34
  go_wp2_with fail
  refine (HA.out).mono ?_
  rintro e w1 ⟨v, rfl, hv, hb1⟩
  obtain ⟨A1, c1, rfl, hc1, hr1⟩ := hv.open
  have HR1 := Lib.hid hr1
  have HB1 := Lib.hid hb1
  clear hv hr1 hb1
  go_wp2_with fail
  refine (HB.out w1 HB1.out).mono ?_
  rintro e w2 ⟨v, rfl, hv, hb2⟩
  obtain ⟨A2, c2, rfl, hc2, hr2⟩ := hv.open
  have HR2 := Lib.hid hr2
  have HR12 := Lib.hid (HR1.out.below hb2)
  have HB2 := Lib.hid (HB1.out.trans (hb2.mono HB1.out.size))
  clear hv hr2 hb2 HR1
  obtain ⟨n, hn⟩ : ∃ n, n = X.length + Y.length + 1 := ⟨_, rfl⟩
  have hn1 : (X.length : Int) + (Y.length : Int) + 1 = (n : Int) := by omega
  have hn2 : n ≤ 1601 := by omega
  have hn3 : IntKind.i64.wrap (n : Int) = (n : Int) := IntWalk.i64_in _ (by omega)
  have hn4 : IntKind.i64.wrap ((X.length : Int) + (Y.length : Int) + 1) = (n : Int) := by rw [hn1, hn3]
  have HN := Lib.hid hn
  have hn5 : 1 ≤ n := by omega
  clear hn
  go_wp2
  go_loopw [7, 8] (fun u v wr => ∃ (i : Nat), i ≤ n ∧ v = .int .i64 (i : Int) ∧ Hid (Nw wr w2.heap.size u (List.replicate i 0)) ∧ Hid (Below w2.heap.size w2 wr)) (fun _ v _ => n - (intOf v).toNat)
  case atStart => exact ⟨0, by omega, rfl, Lib.hid (Nw.lit0 _ _ (Nat.le_refl _)), Lib.hid (below_alloc (Below.refl _ _) _)⟩
  case round =>
    obtain ⟨i, hi, rfl, hv, hB⟩ := hrel
    obtain ⟨A5, c5, e5, hc5, hr5⟩ := hv.out.open
    rw [List.length_replicate] at e5 hc5
    subst e5
    clear hr5
    by_cases hin : i < n
    · have hin' : (i : Int) < (n : Int) := by omega
      have HZ := Lib.hid (show List.replicate i 0 ++ [0] = List.replicate (i + 1) 0 from (List.replicate_succ' ..).symm)
      go_wp2_with (at_builtin; refine app_n (w0 := w2) w2.heap.size rfl _ _ rfl (.slice A5 i c5) (List.replicate i 0) [0] (some ⟨wr.heap.size, 0, none⟩) 1 rfl rfl (hv.out.below (below_alloc (Below.refl _ _) _)) (Rw.one wr 0) (hB.out.alloc hB.out.size _) (by have := hB.out.size; simp; omega) (by simp; omega) ?_; intro vv w3 hv1 hb1 hg1 hat1; rw [HZ.out] at hv1; have HV4 := Lib.hid hv1; have HB4 := Lib.hid hb1; clear hv1 hb1 hg1 hat1)
      go_roundw
      case rel => exact ⟨i + 1, by omega, by go_num, HV4, HB4⟩
      case measure => simp [intOf]; omega
    · have hin' : ¬ (i : Int) < (n : Int) := by omega
      obtain rfl : i = n := by omega
      obtain ⟨g, cap, e5, hg1, hg2⟩ := hv.out.form (by rw [List.length_replicate]; omega)
      rw [List.length_replicate] at e5
      injection e5 with e5 _ e6
      subst e5
      subst e6
      have HSTART := Lib.hid (MulR.start X Y)
      rw [← HN.out] at HSTART
      go_wp2_with fail
      go_loopw [9] (fun v wq => ∃ (j : Nat) (L : List Nat), j ≤ X.length ∧ v = .int .i64 (j : Int) ∧ Hid (MulR X Y j L) ∧ Hid (Nw wq w2.heap.size (.slice (some ⟨g, 0, none⟩) i c5) L) ∧ Hid (Below w2.heap.size w2 wq)) (fun v _ => X.length - (intOf v).toNat)
      case atStart => exact ⟨0, _, by omega, rfl, HSTART, hv, hB⟩
      case round =>
        obtain ⟨j, L, hj, rfl, hM, hvL, hBL⟩ := hrel
        clear hv hB HSTART
        by_cases hjx : j < X.length
        · have hjx' : (j : Int) < (X.length : Int) := by omega
          have HROW := Lib.hid (hM.out.row hjx)
          go_wp2_with fail
          go_loopw [10, 11] (fun v u wp => ∃ (k cy : Nat) (L : List Nat), u = .int .i64 (k : Int) ∧ v = .int .u64 (cy : Int) ∧ Hid (RowR X Y j k cy L) ∧ Hid (Nw wp w2.heap.size (.slice (some ⟨g, 0, none⟩) i c5) L) ∧ Hid (Below w2.heap.size w2 wp)) (fun _ u _ => Y.length + 1 - (intOf u).toNat)
          case atStart => exact ⟨0, 0, L, rfl, rfl, HROW, hvL, hBL⟩
          case round =>
            obtain ⟨k, cy, K, rfl, rfl, hR, hvK, hBK⟩ := hrel
            clear hvL hBL HROW hM
            have hcar := hR.out.car
            have hpos := hR.out.pos
            have hlen := hR.out.len
            rw [← HN.out] at hlen
            by_cases hc : k < Y.length ∨ 0 < cy
            · obtain ⟨hnx, hpl, hz32, hxy⟩ := hR.out.next HX.out HY.out hjx hc
              rw [hlen] at hpl
              obtain ⟨ad, e, hx⟩ := HR12.out.at j hjx
              cases e
              replace hx := (hBK.out.cell (World.block_lt_of_cell? w2 _ hx)).trans hx
              have HAY := Lib.hid (fun wx h => at_call A2 c2 Y k wx (HR2.out.below (w' := wx) h) (by omega) (by omega))
              have hkm : k < Y.length + 1 := by omega
              obtain ⟨p, hp⟩ : ∃ p, p = j + k := ⟨_, rfl⟩
              rw [← hp] at hnx hpl hz32
              obtain ⟨z1, z2⟩ := hvK.out.cell p hpl
              obtain ⟨x, hxx⟩ : ∃ x, x = atL X j := ⟨_, rfl⟩
              obtain ⟨y, hyy⟩ : ∃ x, x = atL Y k := ⟨_, rfl⟩
              obtain ⟨z, hzz⟩ : ∃ x, x = atL K p := ⟨_, rfl⟩
              rw [← hxx, ← hyy] at hxy
              rw [← hxx, ← hyy, ← hzz] at hnx
              rw [← hzz] at hz32 z1
              rw [← hxx] at hx
              rw [← hyy] at HAY
              obtain ⟨m, hm⟩ : ∃ m, m = x * y := ⟨_, rfl⟩
              rw [← hm] at hxy hnx
              obtain ⟨t, ht⟩ : ∃ t, t = z + m := ⟨_, rfl⟩
              rw [← ht] at hnx
              obtain ⟨s, hs⟩ : ∃ s, s = t + cy := ⟨_, rfl⟩
              rw [← hs] at hnx
              have hz32' : z < 4294967296 := hz32
              have hcar' : cy < 4294967296 := hcar
              have f0 : (j : Int) + (k : Int) = (p : Int) := by omega
              have f1 : (x : Int) * (y : Int) = (m : Int) := by rw [hm]; exact (Int.natCast_mul x y).symm
              have f2 : IntKind.u64.wrap (m : Int) = (m : Int) := IntWalk.u64_in _ (by omega)
              have f3 : (z : Int) + (m : Int) = (t : Int) := by omega
              have f4 : IntKind.u64.wrap (t : Int) = (t : Int) := IntWalk.u64_in _ (by omega)
              have f5 : (t : Int) + (cy : Int) = (s : Int) := by omega
              have f6 : IntKind.u64.wrap (s : Int) = (s : Int) := IntWalk.u64_in _ (by omega)
              obtain ⟨r, hrr⟩ : ∃ r, r = s % 4294967296 := ⟨_, rfl⟩
              obtain ⟨q, hq⟩ : ∃ q, q = s / 4294967296 := ⟨_, rfl⟩
              rw [show s % P32 = r from hrr.symm, show s / P32 = q from hq.symm] at hnx
              have f7 : (s : Int) % 4294967296 = (r : Int) := by omega
              have f8 : (s : Int) / 4294967296 = (q : Int) := by omega
              have f9 : (s : Int).tmod 4294967296 = (r : Int) := by rw [Int.tmod_eq_emod_of_nonneg (by omega)]; exact f7
              have g1 : (s : Int).tdiv 4294967296 = (q : Int) := by rw [Int.tdiv_eq_ediv_of_nonneg (by omega)]; exact f8
              have g2 : IntKind.u64.wrap (q : Int) = (q : Int) := IntWalk.u64_in _ (by omega)
              have g3 : IntKind.i64.wrap (p : Int) = (p : Int) := IntWalk.i64_in _ (by omega)
              have hpi : (p : Int) < (i : Int) := by omega
              have HNX := Lib.hid hnx
              have HKM := Lib.hid hkm
              have hk800 : k ≤ 801 := by omega
              have hc3 : (k : Int) < (Y.length : Int) ∨ (¬ (k : Int) < (Y.length : Int) ∧ 0 < (cy : Int)) := by omega
              clear hnx hkm hxx hyy hzz hm ht hs hrr hq hp hc hpos hlen hz32 hcar hxy
              rcases hc3 with k1 | ⟨k1, k2⟩
              all_goals
                go_wp2_with fail
                go_quiet (first | (go_at_call 62; exact (HAY.out _ (pw_below_drewN hBK.out _)).mono fun e w'' ⟨he, hw⟩ => ⟨he, _, hw.symm⟩))
                go_wp2_with fail
                refine ⟨⟨k + 1, q, K.set p r, by go_num, rfl, HNX, Lib.hid (Nw.put (hvK.out.below (pw_below_drewN (Below.refl _ _) _)) p r).1, Lib.hid ((pw_below_drewN hBK.out _).setCell hg1 _)⟩, ?_⟩
                have := HKM.out
                simp [intOf]
                omega
            · have k1 : ¬ (k : Int) < (Y.length : Int) := by omega
              have k2 : ¬ 0 < (cy : Int) := by omega
              have HDONE := Lib.hid (hR.out.done (by omega) (by omega))
              clear hR hcar hpos hlen hc
              go_wp2_with fail
              go_roundw
              case rel => exact ⟨j + 1, K, by omega, by go_num, HDONE, hvK, hBK⟩
              case measure => simp [intOf]; omega
        · have hjx' : ¬ (j : Int) < (X.length : Int) := by omega
          obtain rfl : j = X.length := by omega
          have e := hM.out.eq
          rw [List.take_length] at e
          have hlen := hM.out.len
          rw [← HN.out] at hlen
          obtain ⟨A6, c6, e6, hc6, hr6⟩ := hvL.out.open
          injection e6 with e7 e8 e9
          rw [← e7] at hr6
          have HW := whole_call (some ⟨g, 0, none⟩) c5 L _ hr6 (by omega) hM.out.lt
          rw [show unb 4294967296 L = unb 4294967296 X * unb 4294967296 Y from e, hlen] at HW
          have HWW := Lib.hid HW
          clear e HW hr6 e7 e8 e9 hlen hM
          go_wp2_with fail
          refine (HWW.out).mono ?_
          rintro e w3 ⟨v, rfl, hv2, hb2⟩
          have HV := Lib.hid (hv2.lower (Nat.le_trans HB2.out.size hBL.out.size))
          have HB3 := Lib.hid ((HB2.out.trans (hBL.out.mono HB2.out.size)).trans (hb2.mono (Nat.le_trans HB2.out.size hBL.out.size)))
          clear hv2 hb2
          go_wp2_with fail
          go_ret
          exact ⟨_, rfl, HV.out, HB3.out⟩
end Go.Proofs.YtgdlkpfkaehebaaGreatDoor.Ro
