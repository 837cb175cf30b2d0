/- limb.Add: the sum of two rows of limbs. -/
import Derived.Test.YtgdlkpfkaehebaaGreatDoorLm
import Derived.Test.YtgdlkpfkaehebaaGreatDoorBc
set_option linter.unusedVariables false
namespace Go.Proofs.YtgdlkpfkaehebaaGreatDoor.Ad
open Go Go.RowKit Go.Proofs.YtgdlkpfkaehebaaGreatDoorW.PrintWords Go.Proofs.YtgdlkpfkaehebaaGreatDoorW.PrintLast Go.Proofs.YtgdlkpfkaehebaaGreatDoorW.PrintMore
open Nt Lm

abbrev B64 : Nat := 18446744073709551616
theorem add64n (x y c : Nat) (hx : x < 18446744073709551616) (hy : y < 18446744073709551616) (hc : c ≤ 1) : ∀ w, (callFunc 58 #[.int .u64 (x : Int), .int .u64 (y : Int), .int .u64 (c : Int)]).run Tryz.prog w =
    .ok (.value (.tuple #[.int .u64 (((x + y + c) % 18446744073709551616 : Nat) : Int), .int .u64 (((x + y + c) / 18446744073709551616 : Nat) : Int)])) w := by
  intro w
  have := Bc.add64 (x : Int) (y : Int) (c : Int) (by omega) (by omega) (by omega) (by omega) (by omega) (by omega) w
  rw [this]
  simp

/-- what the loop keeps -/
structure AddAt (lo n0 T : Nat) (b : List Nat) (v : Value) (xs : List Nat) (i cy : Nat) (w0 W : World) : Prop where
  row : Nw W lo v xs
  lim : Lim xs
  one : cy ≤ 1
  sum : unb B64 xs + B64 ^ i * (cy + unb B64 (b.drop i)) = T
  len : xs.length = max n0 i
  top : i ≤ max n0 b.length + 1
  last : i = max n0 b.length + 1 → cy = 0
  below : Below w0.heap.size w0 W
  lo_ : lo = w0.heap.size
theorem lim_snoc {xs : List Nat} (h : Lim xs) : Lim (xs ++ [0]) := by
  intro y hy
  rcases List.mem_append.1 hy with h1 | h1
  · exact h y h1
  · simp at h1; omega
theorem AddAt.stop {lo n0 T : Nat} {b : List Nat} {v : Value} {xs : List Nat} {i cy : Nat} {w0 W : World} (h : AddAt lo n0 T b v xs i cy w0 W) (h1 : b.length ≤ i) (h2 : cy = 0) : val xs = T := by
  have := h.sum
  rw [List.drop_eq_nil_of_le h1, h2] at this
  rw [val_unb]
  simpa [unb] using this
theorem AddAt.next {lo n0 T : Nat} {b : List Nat} {v : Value} {xs : List Nat} {i cy : Nat} {w0 W : World} (h : AddAt lo n0 T b v xs i cy w0 W) (hgo : i < b.length ∨ 0 < cy) (xs' : List Nat) (hx : xs' = if i < xs.length then xs else xs ++ [0]) (hbl : Lim b) :
    i < xs'.length ∧ atL xs' i < B64 ∧ atL b i < B64 ∧ Lim xs' ∧ (atL xs' i + atL b i + cy) / B64 ≤ 1 ∧ Lim (xs'.set i ((atL xs' i + atL b i + cy) % B64)) ∧
    unb B64 (xs'.set i ((atL xs' i + atL b i + cy) % B64)) + B64 ^ (i + 1) * ((atL xs' i + atL b i + cy) / B64 + unb B64 (b.drop (i + 1))) = T ∧ xs'.length = max n0 (i + 1) ∧ i + 1 ≤ max n0 b.length + 1 ∧ (i + 1 = max n0 b.length + 1 → (atL xs' i + atL b i + cy) / B64 = 0) := by
  have hl := h.len
  have ht := h.top
  have hla := h.last
  have h1 := h.one
  have hlx : Lim xs' := by
    rw [hx]; split
    · exact h.lim
    · exact lim_snoc h.lim
  have hlen : xs'.length = max n0 (i + 1) := by
    rw [hx]; split
    · omega
    · rw [List.length_append]; simp; omega
  have ha : atL xs' i < B64 := atL_lt (by decide) hlx i
  have hb : atL b i < B64 := atL_lt (by decide) hbl i
  have hi : i ≤ max n0 b.length := by
    rcases hgo with h2 | h2
    · omega
    · by_cases e : i = max n0 b.length + 1
      · have := hla e; omega
      · omega
  have hun : unb B64 xs' = unb B64 xs := by
    rw [hx]; split
    · rfl
    · exact unb_snoc_zero _ _
  refine ⟨by omega, ha, hb, hlx, ?_, set_lt hlx _ _ (Nat.mod_lt _ (by decide)), ?_, hlen, by omega, fun e => ?_⟩
  · simp only [B64] at *; omega
  · have hs := set_step B64 xs' i (atL b i) cy (by omega)
    have h2 := h.sum
    rw [← hun, unb_drop_at B64 b i] at h2
    rw [← h2]
    generalize (atL xs' i + atL b i + cy) % B64 = r at *
    generalize (atL xs' i + atL b i + cy) / B64 = q at *
    generalize unb B64 (b.drop (i + 1)) = D at *
    have e1 : B64 ^ (i + 1) * (q + D) = B64 ^ (i + 1) * q + B64 ^ i * (B64 * D) := by rw [Nat.mul_add, Nat.pow_succ, Nat.mul_assoc (B64 ^ i) B64 D]
    have e2 : B64 ^ i * (cy + (atL b i + B64 * D)) = B64 ^ i * (atL b i + cy) + B64 ^ i * (B64 * D) := by
      rw [← Nat.mul_add]
      congr 1
      omega
    rw [e1, e2]
    omega
  · have e1 : i = max n0 b.length := by omega
    have e2 : atL b i = 0 := by unfold atL; rw [List.getD_eq_getElem?_getD, List.getElem?_eq_none (by omega)]; rfl
    have e3 : atL xs' i = 0 := by
      rw [hx, if_neg (by omega)]
      unfold atL
      rw [List.getD_eq_getElem?_getD, List.getElem?_append_right (by omega), show i - xs.length = 0 by omega]
      rfl
    rw [e2, e3]
    have : 0 + 0 + cy < B64 := by simp only [B64]; omega
    exact Nat.div_eq_of_lt this

theorem AddAt.step {lo n0 T : Nat} {b : List Nat} {v : Value} {xs : List Nat} {i cy : Nat} {w0 W : World} (h : AddAt lo n0 T b v xs i cy w0 W) (hgo : i < b.length ∨ 0 < cy) (xs' : List Nat) (hx : xs' = if i < xs.length then xs else xs ++ [0]) (hbl : Lim b)
    {g cap : Nat} {W1 : World} (hv : Nw W1 lo (.slice (some ⟨g, 0, none⟩) xs'.length cap) xs') (hb : Below lo w0 W1) (hg : lo ≤ g) :
    AddAt lo n0 T b (.slice (some ⟨g, 0, none⟩) xs'.length cap) (xs'.set i ((atL xs' i + atL b i + cy) % B64)) (i + 1) ((atL xs' i + atL b i + cy) / B64) w0 (W1.setCell ⟨g, i, none⟩ (.int .u64 (((atL xs' i + atL b i + cy) % B64 : Nat) : Int))) := by
  obtain ⟨n1, n2, n3, n4, n5, n6, n7, n8, n9, n10⟩ := h.next hgo xs' hx hbl
  refine ⟨(hv.put i _).1, n6, n5, n7, by rw [List.length_set]; exact n8, n9, n10, ?_, h.lo_⟩
  rw [← h.lo_]
  exact hb.setCell hg _

set_option maxHeartbeats 4000000 in
set_option maxRecDepth 100000 in
theorem add_call (A A1 : Option Addr) (c c1 : Nat) (a b : List Nat) (w : World) (hr : Rw w A a) (hc : a.length ≤ c) (hr1 : Rw w A1 b) (hc1 : b.length ≤ c1) (hla : Lim a) (hlb : Lim b) (hl : a.length ≤ 1000) (hl1 : b.length ≤ 1000) :
    Calls Tryz.prog 31 #[.slice A a.length c, .slice A1 b.length c1] w fun e w' => ∃ v, e = .returned v ∧ Nw w' w.heap.size v (ofN (val a + val b)) ∧ Below w.heap.size w w' := by
  have HT := Lib.hid (fun w hr => trim_call A c a w hr hc (by omega))
  have HTA := Lib.hid (fun w hr => Trim_call A c a w hr hc (by omega))
  have HTB := Lib.hid (fun w hr => Trim_call A1 c1 b w hr hc1 (by omega))
  have HR := Lib.hid hr
  have HR1 := Lib.hid hr1
  clear hr hr1
  by_cases h0 : trimF a = []
  · have e : ofN (val a + val b) = trimF b := by rw [trim_val_zero h0, Nat.zero_add, ofN_val hlb]
    rw [e]
    rw [h0] at HT
    clear e h0
    go_enter Tryz.func31, Tryz.ntmps31
    go_wp2_with (first
      | (go_at_call 56; refine ((HT.out) _ HR.out).mono ?_; rintro e w' ⟨rfl, rfl⟩)
      | (go_at_call 57; refine ((HTB.out) _ HR1.out).mono ?_; rintro e w' ⟨v, rfl, hv, hb⟩))
    go_ret
    exact ⟨_, rfl, hv, hb⟩
  · have hpos : 0 < (trimF a).length := by
      cases h : trimF a with
      | nil => exact absurd h h0
      | cons x l => simp
    have hle := trimF_len a
    have hlt := trimF_lim hla
    have hva := val_trimF a
    obtain ⟨n0, hn0⟩ : ∃ n, n = (trimF a).length := ⟨_, rfl⟩
    rw [← hn0] at HT hpos hle
    obtain ⟨T, hT⟩ : ∃ n, n = val a + val b := ⟨_, rfl⟩
    rw [← hT]
    have hlen0 : ((n0 : Int) == 0) = false := by simp; omega
    have HN0 := Lib.hid hn0
    have HTT := Lib.hid hT
    have HVA := Lib.hid hva
    have HLT := Lib.hid hlt
    have HLB := Lib.hid hlb
    have HLA := Lib.hid hla
    clear h0 hn0 hT hva hlt hlb hla
    go_enter Tryz.func31, Tryz.ntmps31
    go_wp2_with (first
      | (go_at_call 56; refine ((HT.out) _ HR.out).mono ?_; rintro e w' ⟨rfl, rfl⟩)
      | (go_at_call 57; refine ((HTA.out) _ HR.out).mono ?_; rintro e w1 ⟨v, rfl, hv, hb⟩; have hv0 := hv; obtain ⟨A2, c2, rfl, hc2, hr2⟩ := hv.open))
    have HV := Lib.hid hv0
    have HB := Lib.hid hb
    clear hv hv0 hb hr2 HT HTA HTB
    obtain ⟨M, hM⟩ : ∃ n, n = max n0 b.length + 1 := ⟨_, rfl⟩
    have HM := Lib.hid hM
    have hM1 : M ≤ 1001 := by omega
    have hn0M : n0 ≤ M := by omega
    have hbM : b.length < M := by omega
    clear hM
    go_loopw [5, 6, 7] (fun vv cc ii wr => ∃ (xs : List Nat) (i cy : Nat), cc = .int .u64 (cy : Int) ∧ ii = .int .i64 (i : Int) ∧ Hid (AddAt w.heap.size n0 T b vv xs i cy w wr)) (fun _ _ ii _ => M + 1 - (intOf ii).toNat)
    case atStart =>
      refine ⟨trimF a, 0, 0, rfl, rfl, Lib.hid ⟨?_, HLT.out, by decide, ?_, by rw [← HN0.out]; omega, by omega, fun e => by omega, HB.out, rfl⟩⟩
      · exact HV.out
      · rw [HTT.out, Nat.pow_zero, Nat.one_mul, List.drop_zero, Nat.zero_add, ← val_unb, ← val_unb, HVA.out]
    case round =>
      obtain ⟨xs, i, cy, rfl, rfl, hA⟩ := hrel
      have hM2 := HM.out
      have htop := hA.out.top
      have hlenx := hA.out.len
      have hone := hA.out.one
      have hxl : xs.length ≤ 1002 := by omega
      have hiM : i ≤ M := by omega
      clear hM2
      by_cases hgo : i < b.length ∨ 0 < cy
      · obtain ⟨xs', hxs'⟩ : ∃ l, l = if i < xs.length then xs else xs ++ [0] := ⟨_, rfl⟩
        obtain ⟨n1, n2, n3, n4, n5, n6, n7, n8, n9, n10⟩ := hA.out.next hgo xs' hxs' HLB.out
        have HST := Lib.hid (fun g cap W1 hv hb hg => hA.out.step hgo xs' hxs' HLB.out (g := g) (cap := cap) (W1 := W1) hv hb hg)
        obtain ⟨xi, hxi⟩ : ∃ n, n = atL xs' i := ⟨_, rfl⟩
        obtain ⟨bi, hbi⟩ : ∃ n, n = atL b i := ⟨_, rfl⟩
        rw [← hxi, ← hbi] at HST n5
        rw [← hxi] at n2
        rw [← hbi] at n3
        have hadd := add64n xi bi cy n2 n3 hone
        obtain ⟨s, hs⟩ : ∃ n, n = (xi + bi + cy) % 18446744073709551616 := ⟨_, rfl⟩
        obtain ⟨q, hq⟩ : ∃ n, n = (xi + bi + cy) / 18446744073709551616 := ⟨_, rfl⟩
        rw [← hs, ← hq] at hadd
        have HSQ : Hid (s = (xi + bi + cy) % B64 ∧ q = (xi + bi + cy) / B64) := Lib.hid ⟨hs, hq⟩
        rw [← HSQ.out.1, ← HSQ.out.2] at HST
        have hcell : i < b.length → ∃ ad, A1 = some ad ∧ wr.cell? (ad.add i) = some (.int .u64 (bi : Int)) := fun h => by
          obtain ⟨ad, e, hx⟩ := (HR1.out.below (by have := hA.out.below; exact this)).at i h
          rw [← hbi] at hx
          exact ⟨ad, e, hx⟩
        have hb0 : ¬ i < b.length → bi = 0 := fun h => by rw [hbi]; unfold atL; rw [List.getD_eq_getElem?_getD, List.getElem?_eq_none (by omega)]; rfl
        have HXI := Lib.hid hxi
        have HBI := Lib.hid hbi
        have HCELL := Lib.hid hcell
        obtain ⟨A3, c3, e3, hc3, hr3⟩ := hA.out.row.open
        subst e3
        have HV3 := Lib.hid hA.out.row
        have HBW := Lib.hid hA.out.below
        clear hs hq n4 n5 n6 n7 n10 hxi hbi hcell n2 n3 hr3 htop
        by_cases hix : i < xs.length
        · rw [if_pos hix] at hxs'
          subst hxs'
          obtain ⟨g, cap, e4, hg2, hg3⟩ := HV3.out.form (by omega)
          injection e4 with e5 e6 e7
          subst e5 e7
          obtain ⟨z1, z2⟩ := HV3.out.cell i (by omega)
          rw [← HXI.out] at z1
          clear e6
          by_cases hb : i < b.length
          · obtain ⟨ad, e, hx⟩ := HCELL.out hb
            cases e
            have hib : (i : Int) < (b.length : Int) := by omega
            go_wp2_with fail
            go_roundw
            case rel => exact ⟨_, i + 1, q, rfl, by go_num, Lib.hid (HST.out g c3 wr HV3.out HBW.out hg2)⟩
            case measure => simp [intOf]; omega
          · have hb00 := hb0 hb
            subst hb00
            have hcp : 0 < cy := by omega
            rw [show ((0 : Nat) : Int) = 0 from rfl] at hadd
            have hib : ¬ (i : Int) < (b.length : Int) := by omega
            go_wp2_with fail
            go_roundw
            case rel => exact ⟨_, i + 1, q, rfl, by go_num, Lib.hid (HST.out g c3 wr HV3.out HBW.out hg2)⟩
            case measure => simp [intOf]; omega
        · rw [if_neg hix] at hxs'
          have hlx' : xs'.length = xs.length + 1 := by rw [hxs', List.length_append]; rfl
          have hxn : xs' = xs ++ [0] := hxs'
          have HXN := Lib.hid hxn
          have hixs : i = xs.length := by omega
          have hge' : (xs.length : Int) ≤ (i : Int) := by omega
          have HIX := Lib.hid hixs
          have HLX := Lib.hid hlx'
          clear hxs' hxn hixs hlx' n8 hlenx
          by_cases hb : i < b.length
          · obtain ⟨ad, e, hx⟩ := HCELL.out hb
            cases e
            have hib : (i : Int) < (b.length : Int) := by omega
            have hx4 : ∀ {w1 : World}, Below w.heap.size w w1 → w1.cell? (ad.add i) = some (.int .u64 (bi : Int)) := fun {w1} hb1 => by
              obtain ⟨ad', e, hx⟩ := (HR1.out.below hb1).at i hb
              cases e
              rw [← HBI.out] at hx
              exact hx
            clear hx
            go_wp2_with (at_builtin; refine app_n (w0 := w) w.heap.size rfl _ _ rfl (.slice A3 xs.length c3) xs [0] (some ⟨wr.heap.size, 0, none⟩) 1 rfl rfl (HV3.out.below (below_alloc (Below.refl _ _) _)) (Rw.one wr 0) (HBW.out.alloc HBW.out.size _) (by have := HBW.out.size; simp; omega) (by simp; omega) ?_; intro vv w1 hv1 hb1 hg1 hat1; have hv2 := hv1; rw [← HXN.out] at hv2; obtain ⟨g, cap, rfl, hg2, hg3⟩ := hv2.form (by have := HLX.out; omega); obtain ⟨z1, z2⟩ := hv2.cell i (by have := HLX.out; have := HIX.out; omega); rw [← HXI.out] at z1; have HV4 := Lib.hid hv2; have HB4 := Lib.hid hb1; have hx2 := hx4 hb1; clear hv1 hv2 hb1 hg1 hat1)
            go_roundw
            case rel => exact ⟨_, i + 1, q, rfl, by go_num, Lib.hid (HST.out g cap w1 HV4.out HB4.out hg2)⟩
            case measure => simp [intOf]; omega
          · have hb00 := hb0 hb
            subst hb00
            have hcp : 0 < cy := by omega
            rw [show ((0 : Nat) : Int) = 0 from rfl] at hadd
            have hib : ¬ (i : Int) < (b.length : Int) := by omega
            go_wp2_with (at_builtin; refine app_n (w0 := w) w.heap.size rfl _ _ rfl (.slice A3 xs.length c3) xs [0] (some ⟨wr.heap.size, 0, none⟩) 1 rfl rfl (HV3.out.below (below_alloc (Below.refl _ _) _)) (Rw.one wr 0) (HBW.out.alloc HBW.out.size _) (by have := HBW.out.size; simp; omega) (by simp; omega) ?_; intro vv w1 hv1 hb1 hg1 hat1; have hv2 := hv1; rw [← HXN.out] at hv2; obtain ⟨g, cap, rfl, hg2, hg3⟩ := hv2.form (by have := HLX.out; omega); obtain ⟨z1, z2⟩ := hv2.cell i (by have := HLX.out; have := HIX.out; omega); rw [← HXI.out] at z1; have HV4 := Lib.hid hv2; have HB4 := Lib.hid hb1;  clear hv1 hv2 hb1 hg1 hat1)
            go_roundw
            case rel => exact ⟨_, i + 1, q, rfl, by go_num, Lib.hid (HST.out g cap w1 HV4.out HB4.out hg2)⟩
            case measure => simp [intOf]; omega
      · have hbl : b.length ≤ i := by omega
        have hc0 : cy = 0 := by omega
        have hv := hA.out.stop hbl hc0
        obtain ⟨A3, c3, e3, hc3, hr3⟩ := hA.out.row.open
        subst e3
        subst hc0
        have hge : ¬ (i : Int) < (b.length : Int) := by omega
        have HT3 := Lib.hid (fun w hr => trim_call A3 c3 xs w hr hc3 (by omega))
        have HR3 := Lib.hid hr3
        have HV3 := Lib.hid hv
        clear hv hr3 htop hlenx
        go_wp2_with (go_at_call 56; refine ((HT3.out) _ HR3.out).mono ?_; rintro e w' ⟨rfl, rfl⟩)
        go_ret
        refine ⟨_, rfl, ?_, hA.out.below⟩
        rw [← HV3.out, ofN_val hA.out.lim]
        exact hA.out.row.trim
end Go.Proofs.YtgdlkpfkaehebaaGreatDoor.Ad
