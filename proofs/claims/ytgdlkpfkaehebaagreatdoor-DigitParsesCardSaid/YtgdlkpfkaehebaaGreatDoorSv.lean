/- limb.sum: rows of limbs put together, each a limb further. -/
import Derived.Test.YtgdlkpfkaehebaaGreatDoorSu
import Derived.Deep.LoopGhost
set_option linter.unusedVariables false
namespace Go.Proofs.YtgdlkpfkaehebaaGreatDoor.Sv
open Go Go.RowKit Go.Proofs.YtgdlkpfkaehebaaGreatDoorW.PrintWords Go.Proofs.YtgdlkpfkaehebaaGreatDoorW.PrintLast Go.Proofs.YtgdlkpfkaehebaaGreatDoorW.PrintMore
open Nt Lm Ad Bs Tk Su


/-- rows that are read: each a slice value -/
def RowsR (W : World) (vs : List Value) (ls : List (List Nat)) : Prop := vs.length = ls.length ∧ ∀ (j : Nat) (l : List Nat), ls[j]? = some l → ∃ A c, vs[j]? = some (.slice A l.length c) ∧ l.length ≤ c ∧ Rw W A l ∧ Lim l ∧ l.length ≤ 1000
/-- the slice of the rows -/
def RowsAt (W : World) (A : Option Addr) (vs : List Value) : Prop := ∀ (j : Nat) (v : Value), vs[j]? = some v → ∃ ad, A = some ad ∧ W.cell? (ad.add j) = some v
theorem RowsR.below {W W' : World} {vs : List Value} {ls : List (List Nat)} (h : RowsR W vs ls) (hb : Below W.heap.size W W') : RowsR W' vs ls := by
  refine ⟨h.1, fun j l hj => ?_⟩
  obtain ⟨A, c, h1, h2, h3, h4, h5⟩ := h.2 j l hj
  exact ⟨A, c, h1, h2, h3.below hb, h4, h5⟩
theorem RowsAt.below {W W' : World} {A : Option Addr} {vs : List Value} (h : RowsAt W A vs) (hb : Below W.heap.size W W') : RowsAt W' A vs := by
  intro j v hj
  obtain ⟨ad, e, hc⟩ := h j v hj
  exact ⟨ad, e, pw_cell_below hb hc⟩

theorem put_step {lo n0 T : Nat} {b : List Nat} {v v' : Value} {xs : List Nat} {i cy : Nat} {w0 W W' : World} (h : AddAt lo n0 T b v xs i cy w0 W) (hgo : i < b.length ∨ 0 < cy) (xs' : List Nat) (hx : xs' = if i < xs.length then xs else xs ++ [0]) (hbl : Lim b)
    (hv : Nw W' lo v' (xs'.set i ((atL xs' i + atL b i + cy) % B64))) (hb : Below lo w0 W') : AddAt lo n0 T b v' (xs'.set i ((atL xs' i + atL b i + cy) % B64)) (i + 1) ((atL xs' i + atL b i + cy) / B64) w0 W' := by
  obtain ⟨n1, n2, n3, n4, n5, n6, n7, n8, n9, n10⟩ := h.next hgo xs' hx hbl
  refine ⟨hv, n6, n5, n7, by rw [List.length_set]; exact n8, n9, n10, ?_, h.lo_⟩
  rw [← h.lo_]
  exact hb
theorem atL_rep (j i : Nat) (r : List Nat) : atL (List.replicate j 0 ++ r) (j + i) = atL r i := by
  unfold atL
  rw [List.getD_eq_getElem?_getD, List.getD_eq_getElem?_getD, List.getElem?_append_right (by simp)]
  simp
theorem val_rep (j : Nat) (r : List Nat) : unb B64 (List.replicate j 0 ++ r) = B64 ^ j * val r := by
  rw [unb_append, unb_zeros, List.length_replicate, Nat.zero_add, val_unb]
theorem lim_rep (j : Nat) {r : List Nat} (h : Lim r) : Lim (List.replicate j 0 ++ r) := by
  intro x hx
  rcases List.mem_append.1 hx with h1 | h1
  · have := List.eq_of_mem_replicate h1; omega
  · exact h x h1
/-- between two rows -/
structure SumAt (w : World) (bo : Nat) (T : Nat) (ls : List (List Nat)) (j : Nat) (W : World) : Prop where
  st : ∃ v xs, boxS W bo v ∧ Nw W w.heap.size v xs ∧ Lim xs ∧ xs.length ≤ 1000 + 2 * j ∧ unb B64 xs + B64 ^ j * sumV (ls.drop j) = T
  below : Below w.heap.size w W
theorem box_ne {W : World} {bo lo : Nat} {v u : Value} {xs : List Nat} (hb : boxS W bo u) (hv : Nw W lo v xs) (k : Nat) (hk : v.ownBlock = some k) : k ≠ bo := by
  rintro rfl
  obtain ⟨_, cells, hc⟩ := nw_block hv k hk
  rw [show W.heap[k]? = _ from hb] at hc
  simp at hc

/-- while zeros are appended -/
structure FillAt (w : World) (bo U N n : Nat) (v : Value) (xs : List Nat) (W : World) : Prop where
  box : boxS W bo v
  row : Nw W w.heap.size v xs
  lim : Lim xs
  val : unb B64 xs = U
  fit : xs.length ≤ N
  below : Below w.heap.size w W

theorem fill_close {w W W1 : World} {U N n c : Nat} {v : Value} {A : Option Addr} {xs : List Nat} {u : Value} (h : FillAt w w.heap.size U N n v xs W) (hv : Nw W1 w.heap.size (.slice A (xs ++ [0]).length c) (xs ++ [0])) (hz : boxS W1 w.heap.size u) (hb : Below w.heap.size w W1) (hN : xs.length + 1 ≤ N) :
    FillAt w w.heap.size U N n (.slice A (xs.length + 1) c) (xs ++ [0]) (W1.setCell ⟨w.heap.size, 0, none⟩ (.slice A (xs.length + 1) c)) := by
  have e : (xs ++ [0]).length = xs.length + 1 := by simp
  rw [e] at hv
  refine ⟨blk_set hz 0 _, nw_grown hv (grownBy_setCell' _ _ _) (fun k e e2 => ?_), lim_snoc h.lim, by rw [unb_snoc_zero]; exact h.val, by rw [e]; exact hN, hb.setCell (Nat.le_refl _) _⟩
  injection e with e
  exact box_ne hz hv k e2.symm e.symm

/-- while a row is put to the sum -/
structure S3 (w : World) (bc n0 T : Nat) (b : List Nat) (v : Value) (xs : List Nat) (i cy : Nat) (W : World) : Prop where
  add : AddAt w.heap.size n0 T b v xs i cy w W
  box : boxS W w.heap.size v
  car : boxU W bc (.int .u64 (cy : Int))

set_option maxHeartbeats 8000000 in
set_option maxRecDepth 100000 in
theorem sum_call (A : Option Addr) (c : Nat) (vs : List Value) (ls : List (List Nat)) (w : World) (hA : RowsAt w A vs) (hR : RowsR w vs ls) (hn : ls.length ≤ 1000) :
    Calls Tryz.prog 60 #[.slice A ls.length c] w fun e w' => ∃ v, e = .returned v ∧ Nw w' w.heap.size v (ofN (sumV ls)) ∧ Below w.heap.size w w' := by
  obtain ⟨T, hT⟩ : ∃ t, t = sumV ls := ⟨_, rfl⟩
  rw [← hT]
  have HA := Lib.hid hA
  have HR := Lib.hid hR
  have HTT := Lib.hid hT
  clear hA hR hT
  go_enter Tryz.func60, Tryz.ntmps60
  go_wp2_with fail
  go_loopw [13] (fun v13 wr => ∃ j : Nat, v13 = .int .i64 (j : Int) ∧ j ≤ ls.length ∧ Hid (SumAt w w.heap.size T ls j wr)) (fun v13 _ => ls.length + 1 - (intOf v13).toNat)
  case atStart =>
    refine ⟨0, rfl, by omega, Lib.hid ⟨⟨.slice none 0 0, [], ?_, Nw.nil _ _, fun x hx => by simp at hx, by simp, ?_⟩, (Below.refl _ w).alloc (Nat.le_refl _) _⟩⟩
    · exact World.alloc_heap_new w _
    · rw [HTT.out]; simp [unb]
  case round =>
    obtain ⟨j, rfl, hj, hS⟩ := hrel
    obtain ⟨v, xs, hbox, hv, hlx, hlen, hsum⟩ := hS.out.st
    have hbw := hS.out.below
    obtain ⟨o1, o2⟩ := hbox.cell
    obtain ⟨A1, c1, rfl, hc1, hr1⟩ := hv.open
    by_cases hjl : j < ls.length
    · obtain ⟨l, hl⟩ : ∃ l, ls[j]? = some l := ⟨_, List.getElem?_eq_getElem hjl⟩
      obtain ⟨Aj, cj, hvj, hlc, hrj, hlimj, hl1000⟩ := HR.out.2 j l hl
      obtain ⟨ad, e, hcell⟩ := (HA.out.below hbw) j _ hvj
      cases e
      have HTR := Lib.hid (fun w hr => trim_call Aj cj l w hr hlc (by omega))
      have HRJ := Lib.hid hrj
      have hdrop : sumV (ls.drop j) = val l + B64 * sumV (ls.drop (j + 1)) := by
        rw [List.drop_eq_getElem_cons hjl]
        have : ls[j] = l := by rw [List.getElem?_eq_getElem hjl] at hl; exact Option.some.inj hl
        rw [this]; rfl
      have hrt := hrj.take (trimF_len l)
      rw [trim_take] at hrt
      have htl := trimF_len l
      have htv := val_trimF l
      have htlim := trimF_lim hlimj
      obtain ⟨r, hrr⟩ : ∃ r, r = trimF l := ⟨_, rfl⟩
      rw [← hrr] at HTR hrt htl htv htlim
      have HRT := Lib.hid hrt
      have HTV := Lib.hid htv
      have HTL := Lib.hid htlim
      have HSUM := Lib.hid hsum
      have HDR := Lib.hid hdrop
      have HBW := Lib.hid hbw
      have HBX := Lib.hid hbox
      have HV := Lib.hid hv
      have HLX := Lib.hid hlx
      clear hrr hrt htv htlim hsum hdrop hbw hbox hv hlx hl hvj hrj hlimj hr1
      have hjlt : (j : Int) < (ls.length : Int) := by omega
      have hwj : IntKind.i64.wrap ((j : Int) + (r.length : Int)) = (j : Int) + (r.length : Int) := IntWalk.i64_in _ (by omega)
      go_wp2_with (go_at_call 56; refine ((HTR.out) _ (HRJ.out.below HBW.out)).mono ?_; rintro e w' ⟨rfl, rfl⟩)
      have hfill0 : FillAt w w.heap.size (unb B64 xs) (max xs.length (j + r.length)) (j + r.length) (.slice A1 xs.length c1) xs wr := ⟨HBX.out, HV.out, HLX.out, rfl, by omega, HBW.out⟩
      have HF0 := Lib.hid hfill0
      have hnr : j + r.length ≤ 2000 := by omega
      obtain ⟨N1, hN1⟩ : ∃ n, n = max xs.length (j + r.length) := ⟨_, rfl⟩
      have hN1b : N1 ≤ 1001 + 2 * j ∧ j + r.length ≤ N1 := by omega
      have HN1 := Lib.hid hN1
      rw [← hN1] at HF0
      clear hfill0 hN1 o1 o2 hcell
      go_loopg [] (j + r.length) (fun k wx => ∃ vx xx, Hid (FillAt w w.heap.size (unb B64 xs) N1 (j + r.length) vx xx wx) ∧ j + r.length ≤ k + xx.length)
      case atStart => exact ⟨_, _, HF0, by omega⟩
      case round =>
        obtain ⟨vx, xx, hF, hk⟩ := hrel
        have hFb := hF.out.box
        obtain ⟨o1, o2⟩ := hFb.cell
        obtain ⟨A2, c2, e2, hc2, hr2⟩ := hF.out.row.open
        subst e2
        have hxxN := hF.out.fit
        by_cases hlt : xx.length < j + r.length
        · have hlti : ((xx.length : Nat) : Int) < (j : Int) + (r.length : Int) := by omega
          have HFR := Lib.hid hF.out.row
          have HFW := Lib.hid hF.out.below
          clear hFb hr2
          go_wp2_with (at_builtin; refine app_n (w0 := w) w.heap.size rfl _ _ rfl (.slice A2 xx.length c2) xx [0] (some ⟨wr.heap.size, 0, none⟩) 1 rfl rfl (HFR.out.below (below_alloc (Below.refl _ _) _)) (Rw.one wr 0) (HFW.out.alloc HFW.out.size _) (by have := HFW.out.size; simp; omega) (by simp; omega) ?_; intro vv w1 hv1 hb1 hg1 hat1; have hz := (blk_grown (blk_grown (show wr.heap[w.heap.size]? = _ from hF.out.box) (World.grownBy_alloc wr _ none) (by simp)) hg1 (fun e => box_ne hF.out.box hF.out.row _ e.symm rfl)); have hz1 : boxS w1 w.heap.size _ := hz; obtain ⟨y1, y2⟩ := hz1.cell; obtain ⟨A4, c4, e4, hc4, hr4⟩ := hv1.open; subst e4; have HV4 := Lib.hid hv1; have HB4 := Lib.hid hb1; have HZ := Lib.hid hz1; clear hv1 hb1 hg1 hat1 hr4 hz hz1)
          go_roundg (gk - 1)
          case measure => omega
          case rel => exact ⟨_, xx ++ [0], Lib.hid (fill_close hF.out HV4.out HZ.out HB4.out (by omega)), by rw [List.length_append]; simp; omega⟩
        · have hlti : ¬ ((xx.length : Nat) : Int) < (j : Int) + (r.length : Int) := by omega
          have HFF := Lib.hid hF.out
          have hbs := hF.out.below.size
          clear hFb hr2
          obtain ⟨wq, hq⟩ : ∃ x, x = wr := ⟨_, rfl⟩
          subst hq
          go_wp2_with fail
          have hown : ∀ k, (Value.slice A2 xx.length c2).ownBlock = some k → k < wq.heap.size := fun k hk => Kd.R_lt HFF.out.row k hk
          have HOWN := Lib.hid hown
          obtain ⟨T3, hT3⟩ : ∃ t, t = unb B64 xs + B64 ^ j * val r := ⟨_, rfl⟩
          have hbl3 : (List.replicate j 0 ++ r).length = j + r.length := by simp
          obtain ⟨b3, hb3⟩ : ∃ l, l = List.replicate j 0 ++ r := ⟨_, rfl⟩
          have hs3 : S3 w wq.heap.size xx.length T3 b3 (.slice A2 xx.length c2) xx j 0 (wq.alloc (.cells #[.int .u64 0] 31)) := by
            refine ⟨⟨HFF.out.row.below (below_alloc (Below.refl _ _) _), HFF.out.lim, by decide, ?_, by omega, by omega, fun e => by omega, HFF.out.below.alloc HFF.out.below.size _, rfl⟩, ?_, ?_⟩
            · rw [HFF.out.val, hb3, List.drop_append_of_le_length (by simp), List.drop_of_length_le (by simp), List.nil_append, Nat.zero_add, hT3, val_unb]
            · exact blk_grown HFF.out.box (World.grownBy_alloc _ _ none) (by simp)
            · exact World.alloc_heap_new wq _
          have HS3 := Lib.hid hs3
          have HT3 := Lib.hid hT3
          rw [← hb3] at hbl3
          have HB3 := Lib.hid hb3
          have HBL3 := Lib.hid hbl3
          clear hown hT3 hb3 hs3 hbl3 o1 o2
          go_loopw [33] (fun v33 wy => ∃ (i cy : Nat) (x3 : List Nat), v33 = .int .i64 (i : Int) ∧ i ≤ r.length ∧ x3.length = xx.length ∧ Hid (S3 w wq.heap.size xx.length T3 b3 (.slice A2 xx.length c2) x3 (j + i) cy wy)) (fun v33 _ => r.length + 1 - (intOf v33).toNat)
          case atStart => exact ⟨0, 0, xx, rfl, by omega, rfl, HS3⟩
          case round =>
            obtain ⟨i, cy, x3, rfl, hi, hx3l, hS3⟩ := hrel
            obtain ⟨o1, o2⟩ := hS3.out.box.cell
            have HX3 := Lib.hid hx3l
            have hx3b : x3.length ≤ 3000 := by omega
            have hx3n : j + r.length ≤ x3.length := by omega
            clear hx3l
            by_cases hir : i < r.length
            · obtain ⟨ad2, e, hrc⟩ := (HRT.out.below (hS3.out.add.below)).at i hir
              cases e
              obtain ⟨g, cap, e4, hg, hgw⟩ := hS3.out.add.row.form (by omega)
              injection e4 with e5 e6 e7
              subst e5 e7
              have hgb : g < wq.heap.size := HOWN.out g rfl
              obtain ⟨xr, hxr⟩ : ∃ n, n = atL r i := ⟨_, rfl⟩
              rw [← hxr] at hrc
              have hxr64 : xr < B64 := by rw [hxr]; exact atL_lt (by decide) HTL.out i
              have hbx := hS3.out.box
              have hrw := hS3.out.add.row
              rw [← HX3.out] at hbx hrw
              have hcall := add1_call w wr w.heap.size w.heap.size wq.heap.size g c2 (j + i) xr cy x3 hbx hS3.out.car hrw (by omega) (by omega) (by omega) rfl hxr64 hS3.out.add.one hS3.out.add.lim hS3.out.add.below hg hbs
              rw [Int.natCast_add] at hcall
              have HCALL := Lib.hid hcall
              have HXR := Lib.hid hxr
              have hirr : (i : Int) < (r.length : Int) := by omega
              have hji : IntKind.i64.wrap ((j : Int) + (i : Int)) = (j : Int) + (i : Int) := IntWalk.i64_in _ (by omega)
              clear hcall hxr hbx hrw hgw e6
              go_wp2_with (go_at_call 80; refine (HCALL.out).mono ?_; rintro e w4 ⟨rfl, k1, k2, k3, k4, k5, k6⟩)
              rw [HXR.out] at k2 k3
              have hgo3 : j + i < b3.length ∨ 0 < cy := .inl (by rw [HBL3.out]; omega)
              have eb3 : atL b3 (j + i) = atL r i := by rw [HB3.out, atL_rep]
              have hput := put_step (v' := .slice (some ⟨g, 0, none⟩) xx.length c2) (W' := w4) hS3.out.add hgo3 x3 (by rw [if_pos (by omega)]) (by rw [HB3.out]; exact lim_rep j HTL.out)
              rw [eb3] at hput
              rw [HX3.out] at k1 k3
              have hS4 := hput k3 k4
              have HS4 : Hid (S3 w wq.heap.size xx.length T3 b3 (.slice (some ⟨g, 0, none⟩) xx.length c2) (x3.set (j + i) ((atL x3 (j + i) + atL r i + cy) % B64)) (j + i + 1) ((atL x3 (j + i) + atL r i + cy) / B64) w4) := Lib.hid ⟨hS4, k1, k2⟩
              clear hput hS4 k1 k2 k3 k4 k5 k6 eb3 hgo3
              go_wp2_with fail
              go_roundw
              case rel => exact ⟨i + 1, _, _, by go_num, by omega, by rw [List.length_set]; exact HX3.out, HS4⟩
              case measure => simp [intOf]; omega
            · have hirr : ¬ (i : Int) < (r.length : Int) := by omega
              obtain rfl : i = r.length := by omega
              have hn0 : j + r.length ≤ xx.length := by omega
              have hxxb : xx.length ≤ 3000 := by omega
              have hown4 : ∀ k, (Value.slice A2 xx.length c2).ownBlock = some k → k ≠ wq.heap.size := fun k hk => by have := HOWN.out k hk; omega
              have HOWN4 := Lib.hid hown4
              clear hown4 o1 o2
              go_wp2_with fail
              go_loopw [10] (fun v10 wz => ∃ (i cy : Nat) (v4 : Value) (x4 : List Nat), v10 = .int .i64 (i : Int) ∧ j + r.length ≤ i ∧ Hid (S3 w wq.heap.size xx.length T3 b3 v4 x4 i cy wz) ∧ Hid (∀ k, v4.ownBlock = some k → k ≠ wq.heap.size)) (fun v10 _ => xx.length + 3 - (intOf v10).toNat)
              case atStart => exact ⟨j + r.length, cy, _, x3, by go_num, by omega, hS3, HOWN4⟩
              case round =>
                obtain ⟨i, cy, v4, x4, rfl, hi4, hS4, hO4⟩ := hrel
                obtain ⟨A4, c4, e4, hc4, hr4⟩ := hS4.out.add.row.open
                subst e4
                obtain ⟨o1, o2⟩ := hS4.out.box.cell
                have hlen4 := hS4.out.add.len
                have htop4 := hS4.out.add.top
                have hone4 := hS4.out.add.one
                have hb3l := HBL3.out
                have hitop : i ≤ xx.length + 1 := by omega
                have hx4b : x4.length ≤ 3001 := by omega
                have cc1 : wr.cell? ⟨wq.heap.size, 0, none⟩ = some (.int .u64 (cy : Int)) := cell_of_row wr wq.heap.size 0 _ _ _ hS4.out.car
                have hix4 : i ≤ x4.length := by omega
                have HL4 := Lib.hid hlen4
                clear hb3l hlen4 htop4 hr4
                by_cases hcy : cy = 0
                · subst hcy
                  have hstop := hS4.out.add.stop (by rw [HBL3.out]; exact hi4) rfl
                  have hnext : SumAt w w.heap.size T ls (j + 1) wr := by
                    refine ⟨⟨_, x4, hS4.out.box, hS4.out.add.row, hS4.out.add.lim, ?_, ?_⟩, hS4.out.add.below⟩
                    · have := HL4.out; omega
                    · rw [← val_unb, hstop, HT3.out, Nat.pow_succ, HTV.out, Nat.mul_assoc, Nat.add_assoc, ← Nat.mul_add]
                      rw [← HDR.out]
                      exact HSUM.out
                  have HNEXT := Lib.hid hnext
                  clear hstop hnext
                  go_wp2_with fail
                  go_roundw
                  case rel => exact ⟨j + 1, by go_num, by omega, HNEXT⟩
                  case measure => simp [intOf]; omega
                · have hcp : 0 < cy := by omega
                  have hneb : decide ((0 : Int) < (cy : Int)) = true := decide_eq_true (by omega)
                  by_cases hix : i < x4.length
                  · obtain ⟨g, cap, e4, hg, hgw⟩ := hS4.out.add.row.form (by omega)
                    injection e4 with e5 e6 e7
                    subst e5 e7
                    have hgb : g ≠ wq.heap.size := hO4.out g rfl
                    have hcall := add1_call w wr w.heap.size w.heap.size wq.heap.size g c4 i 0 cy x4 hS4.out.box hS4.out.car hS4.out.add.row hix (by omega) hgb rfl (by decide) hS4.out.add.one hS4.out.add.lim hS4.out.add.below hg hbs
                    rw [show ((0 : Nat) : Int) = 0 from rfl] at hcall
                    have HCALL := Lib.hid hcall
                    clear hcall
                    have hii : ((i : Int) == (x4.length : Int)) = false := by simp; omega
                    clear e6
                    go_wp2_with (go_at_call 80; refine (HCALL.out).mono ?_; rintro e w4 ⟨rfl, k1, k2, k3, k4, k5, k6⟩)
                    have eb3 : atL b3 i = 0 := by unfold atL; rw [List.getD_eq_getElem?_getD, List.getElem?_eq_none (by rw [HBL3.out]; omega)]; rfl
                    have hput := put_step (v' := .slice (some ⟨g, 0, none⟩) x4.length c4) (W' := w4) hS4.out.add (.inr (by omega)) x4 (by rw [if_pos hix]) (by rw [HB3.out]; exact lim_rep j HTL.out)
                    rw [eb3] at hput
                    have HS5 : Hid (S3 w wq.heap.size xx.length T3 b3 (.slice (some ⟨g, 0, none⟩) x4.length c4) (x4.set i ((atL x4 i + 0 + cy) % B64)) (i + 1) ((atL x4 i + 0 + cy) / B64) w4) := Lib.hid ⟨hput k3 k4, k1, k2⟩
                    clear hput k1 k2 k3 k4 k5 k6 eb3
                    go_wp2_with fail
                    go_roundw
                    case rel => exact ⟨i + 1, _, _, _, by go_num, by omega, HS5, hO4⟩
                    case measure => simp [intOf]; omega
                  · have hie : i = x4.length := by omega
                    have HIE := Lib.hid hie
                    have hii : ((i : Int) == (x4.length : Int)) = true := by simp; omega
                    have HR4 := Lib.hid hS4.out.add.row
                    have HW4 := Lib.hid hS4.out.add.below
                    clear hie
                    go_wp2_with (at_builtin; refine app_n (w0 := w) w.heap.size rfl _ _ rfl (.slice A4 x4.length c4) x4 [0] (some ⟨wr.heap.size, 0, none⟩) 1 rfl rfl (HR4.out.below (below_alloc (Below.refl _ _) _)) (Rw.one wr 0) (HW4.out.alloc HW4.out.size _) (by have := HW4.out.size; simp; omega) (by simp; omega) ?_; intro vv w1 hv1 hb1 hg1 hat1; have hz1 : boxS w1 w.heap.size _ := (blk_grown (blk_grown (show wr.heap[w.heap.size]? = _ from hS4.out.box) (World.grownBy_alloc wr _ none) (by simp)) hg1 (fun e => box_ne hS4.out.box hS4.out.add.row _ e.symm rfl)); have hq1 : boxU w1 wq.heap.size _ := (blk_grown (blk_grown (show wr.heap[wq.heap.size]? = _ from hS4.out.car) (World.grownBy_alloc wr _ none) (by simp)) hg1 (fun e => hO4.out _ e.symm rfl)); obtain ⟨y1, y2⟩ := hz1.cell; have HQ1 := Lib.hid hq1; have hv2 := hv1; obtain ⟨g, cap, rfl, hg2, hg3⟩ := hv1.form (by simp); have HV4 := Lib.hid hv2; have HB4 := Lib.hid hb1; have HZ := Lib.hid hz1; have HAT := Lib.hid hat1; clear hv1 hb1 hg1 hat1 hz1 hv2 hq1)
                    have hcl : wq.heap.size < wr.heap.size := (Array.getElem?_eq_some_iff.1 hS4.out.car).1
                    have hgb : g ≠ wq.heap.size := by
                      rcases HAT.out with h | ⟨b, h, hb⟩
                      · exact hO4.out g (by rw [← h]; rfl)
                      · have : g = b := by simpa [Value.ownBlock] using h
                        simp at hb
                        omega
                    have e1 : (x4 ++ [0]).length = x4.length + 1 := by simp
                    have hq5 : boxS (w1.setCell ⟨w.heap.size, 0, none⟩ (.slice (some ⟨g, 0, none⟩) (x4 ++ [0]).length cap)) w.heap.size (.slice (some ⟨g, 0, none⟩) (x4 ++ [0]).length cap) := blk_set HZ.out 0 _
                    have hq6 : boxU (w1.setCell ⟨w.heap.size, 0, none⟩ (.slice (some ⟨g, 0, none⟩) (x4 ++ [0]).length cap)) wq.heap.size (.int .u64 (cy : Int)) := (Below.heap_setCell _ _ _ _ (by show wq.heap.size ≠ w.heap.size; have := hbs; intro e; exact absurd (show w1.heap[wq.heap.size]? = _ from HQ1.out) (by rw [e, show w1.heap[w.heap.size]? = _ from HZ.out]; simp))).trans HQ1.out
                    have hq7 : Nw (w1.setCell ⟨w.heap.size, 0, none⟩ (.slice (some ⟨g, 0, none⟩) (x4 ++ [0]).length cap)) w.heap.size (.slice (some ⟨g, 0, none⟩) (x4 ++ [0]).length cap) (x4 ++ [0]) := nw_grown HV4.out (grownBy_setCell' _ _ _) (fun k e e2 => by injection e with e; exact box_ne HZ.out HV4.out k e2.symm e.symm)
                    have hcall := add1_call w _ w.heap.size w.heap.size wq.heap.size g cap i 0 cy (x4 ++ [0]) hq5 hq6 hq7 (by rw [e1]; have := HIE.out; omega) (by rw [e1]; omega) hgb rfl (by decide) hS4.out.add.one (lim_snoc hS4.out.add.lim) (HB4.out.setCell (Nat.le_refl _) _) hg2 hbs
                    rw [show ((0 : Nat) : Int) = 0 from rfl, e1] at hcall
                    have HCALL := Lib.hid hcall
                    clear hcall hq5 hq6 hq7
                    go_at_call 80
                    refine (HCALL.out).mono ?_
                    rintro e w4 ⟨rfl, k1, k2, k3, k4, k5, k6⟩
                    have hO5 : Hid (∀ k, (Value.slice (some ⟨g, 0, none⟩) (x4.length + 1) cap).ownBlock = some k → k ≠ wq.heap.size) := Lib.hid (fun k hk => by
                      have : g = k := by simpa [Value.ownBlock] using hk
                      rw [← this]; exact hgb)
                    clear e1
                    have eb3 : atL b3 i = 0 := by unfold atL; rw [List.getD_eq_getElem?_getD, List.getElem?_eq_none (by rw [HBL3.out]; omega)]; rfl
                    have hput := put_step (v' := .slice (some ⟨g, 0, none⟩) (x4.length + 1) cap) (W' := w4) hS4.out.add (.inr (by omega)) (x4 ++ [0]) (by rw [if_neg (by have := HIE.out; omega)]) (by rw [HB3.out]; exact lim_rep j HTL.out)
                    rw [eb3] at hput
                    have HS5 : Hid (S3 w wq.heap.size xx.length T3 b3 (.slice (some ⟨g, 0, none⟩) (x4.length + 1) cap) ((x4 ++ [0]).set i ((atL (x4 ++ [0]) i + 0 + cy) % B64)) (i + 1) ((atL (x4 ++ [0]) i + 0 + cy) / B64) w4) := Lib.hid ⟨hput k3 k4, k1, k2⟩
                    clear hput k1 k2 k3 k4 k5 k6 eb3
                    go_wp2_with fail
                    go_roundw
                    case rel => exact ⟨i + 1, _, _, _, by go_num, by omega, HS5, hO5⟩
                    case measure => simp [intOf]; omega
    · have hje : j = ls.length := by omega
      have hval : val xs = T := by
        rw [hje, List.drop_length] at hsum
        rw [val_unb]
        simpa [sumV] using hsum
      have hge : ¬ (j : Int) < (ls.length : Int) := by omega
      have HT1 := Lib.hid (trim_call A1 c1 xs wr hr1 hc1 (by omega))
      have hr2 := hr1.take (trimF_len xs)
      rw [trim_take] at hr2
      have HC := Lib.hid (clone_n A1 c1 (trimF xs) wr hr2 (by have := trimF_len xs; omega))
      have HV := Lib.hid hval
      have HLX := Lib.hid hlx
      have HBW := Lib.hid hbw
      clear hje hval hsum hr1 hr2 hv hbox hlx hbw
      go_wp2_with (first
        | (go_at_call 56; refine (HT1.out).mono ?_; rintro e w' ⟨rfl, rfl⟩)
        | (go_at_call 79; refine (HC.out).mono ?_; rintro e w' ⟨v, rfl, hv2, hb2⟩))
      go_ret
      refine ⟨_, rfl, ?_, HBW.out.trans (hb2.mono HBW.out.size)⟩
      rw [← HV.out, ofN_val HLX.out]
      exact hv2.lower HBW.out.size
end Go.Proofs.YtgdlkpfkaehebaaGreatDoor.Sv
