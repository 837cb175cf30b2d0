/- The call of the law DiskFuse is proved: it answers true, whatever the fuse and the calls. -/
import Derived.Test.YtoafebndlldclaaDiskH
import Derived.Test.YtoafebndlldclaaRd
import Derived.OpenShut
namespace Go.Proofs.Ytoafebndlldclaa.Dk
open Go Go.RowKit Go.ChangeMaps Go.MapKept

/-- what a disk is behind i calls, its fuse having been k -/
structure FuseSt (k i : Nat) (D : DS) : Prop where
  len : D.olds.length = 4
  off : D.off = decide (k ≠ 0 ∧ k ≤ i)
  fuse : D.fuse = k - i
def fuseE (k i : Nat) : Int := if k = 0 ∨ i + 1 < k then 0 else 180

theorem FuseSt.burn {k i : Nat} {D : DS} (h : FuseSt k i D) (ho : D.off = false) (f : DS → DS) (hf : (f { D with fuse := D.fuse - 1 }).olds.length = D.olds.length ∧ (f { D with fuse := D.fuse - 1 }).off = D.off ∧ (f { D with fuse := D.fuse - 1 }).fuse = D.fuse - 1) : FuseSt k (i + 1) (Dk.burn D f).1 ∧ (Dk.burn D f).2 = fuseE k i := by
  have h1 := h.off
  rw [ho] at h1
  have h2 : ¬ (k ≠ 0 ∧ k ≤ i) := by simpa using h1.symm
  unfold Dk.burn fuseE
  by_cases hb : D.fuse = 1
  · rw [if_pos hb]
    have := h.fuse
    rw [if_neg (by omega)]
    exact ⟨⟨h.len, by simp; omega, by simp; omega⟩, rfl⟩
  · rw [if_neg hb]
    have := h.fuse
    rw [if_pos (by omega)]
    obtain ⟨f1, f2, f3⟩ := hf
    refine ⟨⟨by rw [f1]; exact h.len, ?_, by rw [f3]; omega⟩, rfl⟩
    rw [f2, ho]
    simp
    omega
theorem FuseSt.dead {k i : Nat} {D : DS} (h : FuseSt k i D) (ho : D.off = true) : FuseSt k (i + 1) D ∧ fuseE k i = 180 := by
  have h1 := h.off
  rw [ho] at h1
  have h2 : k ≠ 0 ∧ k ≤ i := by simpa using h1.symm
  have := h.fuse
  refine ⟨⟨h.len, by rw [ho]; simp; omega, by omega⟩, ?_⟩
  unfold fuseE
  rw [if_neg (by omega)]
theorem FuseSt.write {k i : Nat} {D : DS} (h : FuseSt k i D) (j : Int) (h0 : 0 ≤ j) (h4 : j < 4) {s : Bs} (hs : s.length ≤ 64) : FuseSt k (i + 1) (Dk.write D j s).1 ∧ (Dk.write D j s).2 = fuseE k i := by
  have hl := h.len
  unfold Dk.write
  cases ho : D.off with
  | true =>
    rw [within_off ho, if_pos (by decide)]
    exact ⟨(h.dead ho).1, (h.dead ho).2.symm⟩
  | false =>
    rw [within_some ho h0 (by omega), if_neg (by decide), if_neg (by omega)]
    exact h.burn ho _ ⟨rfl, rfl, rfl⟩
theorem FuseSt.sync {k i : Nat} {D : DS} (h : FuseSt k i D) (hD : D.Ok) : FuseSt k (i + 1) (Dk.sync D).1 ∧ (Dk.sync D).2 = fuseE k i := by
  unfold Dk.sync
  cases ho : D.off with
  | true =>
    rw [if_pos rfl]
    exact ⟨(h.dead ho).1, (h.dead ho).2.symm⟩
  | false =>
    rw [if_neg (by simp)]
    have hlen := hD.len
    exact h.burn ho _ ⟨by simp [settle, hlen], rfl, rfl⟩

def FuseInv (W : World) (b g bm k n : Nat) (i : Value) (wr : World) : Prop := ∃ (j : Nat) (D : DS), i = .int .i64 j ∧ j ≤ n ∧ At W wr b g bm D ∧ FuseSt k j D

set_option maxRecDepth 100000 in
set_option maxHeartbeats 1000000 in
theorem fuse_long (n : Int) (v : Value) (l : List Bool) (W : World) (R : Rd.RowOf W Value.bool v l) (h1 : 100 < l.length) : Calls Try.prog 5 #[.int .u8 n, v] W fun e w' => e = .returned (.bool true) ∧ Below W.heap.size W w' := by
  obtain ⟨a, cap, rfl⟩ := R.len
  have h2 : decide (100 < l.length) = true := decide_eq_true h1
  clear R
  go_enter Try.func5, Try.ntmps5
  go_wp2_with (go_at_call 8; refine (shown_any _).mono ?_; rintro e' w' ⟨rfl, hb⟩)
  go_ret
  exact ⟨rfl, hb⟩

set_option maxRecDepth 100000 in
set_option maxHeartbeats 4000000 in
theorem fuse_short (n : Nat) (hn : n < 256) (v : Value) (l : List Bool) (W : World) (R : Rd.RowOf W Value.bool v l) (h1 : l.length ≤ 100) : Calls Try.prog 5 #[.int .u8 n, v] W fun e w' => e = .returned (.bool true) ∧ Below W.heap.size W w' := by
  obtain ⟨a, cap, rfl⟩ := R.len
  have h2 : decide (100 < l.length) = false := decide_eq_false (by omega)
  have HC := Lib.hid R
  obtain ⟨k, hk⟩ : ∃ k : Nat, ((n : Nat) : Int) % 50 = k := ⟨n % 50, by omega⟩
  have hk50 : k < 50 := by omega
  have HK := Lib.hid hk
  clear R hk
  go_enter Try.func5, Try.ntmps5
  go_wp2_with fail
  refine (shown_any _).mono ?_
  rintro e w0 ⟨rfl, hb0⟩
  go_wp2_with fail
  refine (made 4 (by decide) (by decide) W w0 hb0).mono ?_
  rintro e w1 ⟨b, g, bm, rfl, h, _⟩
  have H1 := Lib.hid h
  clear h
  go_wp2_with fail
  rw [HK.out]
  refine (H1.out.setFuse k (by omega)).mono ?_
  rintro e w2 ⟨rfl, h, _⟩
  have H2 := Lib.hid h
  clear h H1
  have HS : Hid (FuseSt k 0 (setFuse (new 4) k)) := ⟨rfl, by simp [setFuse, new], by simp [setFuse]⟩
  go_wp2_with fail
  go_loopw [7, 8] (fun i _ wr => FuseInv W b g bm k l.length i wr) (fun i _ _ => l.length - (intOf i).toNat)
  case atStart => exact ⟨0, _, rfl, Nat.zero_le _, H2.out, HS.out⟩
  case round =>
    obtain ⟨j, D, rfl, hj, hat, hst⟩ := hrel
    have HA := Lib.hid hat
    have HST := Lib.hid hst
    clear hat hst
    by_cases hlt : j < l.length
    · obtain ⟨x, hx⟩ : ∃ x, l[j]? = some x := ⟨_, List.getElem?_eq_getElem hlt⟩
      obtain ⟨bb, off, rfl, hbb, hcell⟩ := HC.out.at_ hx
      have hcw : wr.cell? ⟨bb, off + j, none⟩ = some (.bool x) := (HA.out.bel.cell (p := ⟨bb, off + j, none⟩) hbb).trans hcell
      clear hcell hx
      have hj100 : (j : Int) < 100 := by omega
      cases x with
      | true =>
        by_cases hk0 : k = 0
        · have t0 : ((k : Int) == 0) = true := beq_iff_eq.2 (by omega)
          have hk9 : k ≤ 0 := by omega
          clear hk0
          have hs := HST.out.sync HA.out.disk.ok
          rw [show fuseE k j = 0 from by unfold fuseE; rw [if_pos (.inl (by omega))]] at hs
          obtain ⟨hs1, hs2⟩ := hs
          have HS1 := Lib.hid hs1
          go_wp2_with fail
          have c1 := HA.out.sync
          rw [hs2] at c1
          have C1 := Lib.hid c1
          clear c1 hs1 hs2
          refine C1.out.mono ?_
          rintro e w3 ⟨rfl, h, _⟩
          have H3 := Lib.hid h
          clear h C1
          go_wp2_with fail
          go_roundw
          case rel => exact ⟨j + 1, _, by go_num, hlt, H3.out, HS1.out⟩
          case measure => simp [intOf]; omega
        · have t0 : ((k : Int) == 0) = false := beq_eq_false_iff_ne.2 (by omega)
          by_cases hk1 : j + 1 < k
          · have t1 : (j : Int) + 1 < (k : Int) := by omega
            have hs := HST.out.sync HA.out.disk.ok
            rw [show fuseE k j = 0 from by unfold fuseE; rw [if_pos (.inr hk1)]] at hs
            obtain ⟨hs1, hs2⟩ := hs
            have HS1 := Lib.hid hs1
            go_wp2_with fail
            have c1 := HA.out.sync
            rw [hs2] at c1
            have C1 := Lib.hid c1
            clear c1 hs1 hs2
            refine C1.out.mono ?_
            rintro e w3 ⟨rfl, h, _⟩
            have H3 := Lib.hid h
            clear h C1
            go_wp2_with fail
            go_roundw
            case rel => exact ⟨j + 1, _, by go_num, hlt, H3.out, HS1.out⟩
            case measure => simp [intOf]; omega
          · have t1 : ¬ (j : Int) + 1 < (k : Int) := by omega
            have hs := HST.out.sync HA.out.disk.ok
            rw [show fuseE k j = 180 from by unfold fuseE; rw [if_neg (by omega)]] at hs
            obtain ⟨hs1, hs2⟩ := hs
            have HS1 := Lib.hid hs1
            go_wp2_with fail
            have c1 := HA.out.sync
            rw [hs2] at c1
            have C1 := Lib.hid c1
            clear c1 hs1 hs2
            refine C1.out.mono ?_
            rintro e w3 ⟨rfl, h, _⟩
            have H3 := Lib.hid h
            clear h C1
            go_wp2_with fail
            go_roundw
            case rel => exact ⟨j + 1, _, by go_num, hlt, H3.out, HS1.out⟩
            case measure => simp [intOf]; omega
      | false =>
        by_cases hk0 : k = 0
        · have t0 : ((k : Int) == 0) = true := beq_iff_eq.2 (by omega)
          have hk9 : k ≤ 0 := by omega
          clear hk0
          have hs := HST.out.write ((j : Int) % 4) (by omega) (by omega) (s := [120]) (by decide)
          rw [show fuseE k j = 0 from by unfold fuseE; rw [if_pos (.inl (by omega))]] at hs
          obtain ⟨hs1, hs2⟩ := hs
          have HS1 := Lib.hid hs1
          go_wp2_with fail
          have c1 := HA.out.write ((j : Int) % 4) ⟨#[120]⟩ (by decide)
          rw [hs2] at c1
          have C1 := Lib.hid c1
          clear c1 hs1 hs2
          refine C1.out.mono ?_
          rintro e w3 ⟨rfl, h, _⟩
          have H3 := Lib.hid h
          clear h C1
          go_wp2_with fail
          go_roundw
          case rel => exact ⟨j + 1, _, by go_num, hlt, H3.out, HS1.out⟩
          case measure => simp [intOf]; omega
        · have t0 : ((k : Int) == 0) = false := beq_eq_false_iff_ne.2 (by omega)
          by_cases hk1 : j + 1 < k
          · have t1 : (j : Int) + 1 < (k : Int) := by omega
            have hs := HST.out.write ((j : Int) % 4) (by omega) (by omega) (s := [120]) (by decide)
            rw [show fuseE k j = 0 from by unfold fuseE; rw [if_pos (.inr hk1)]] at hs
            obtain ⟨hs1, hs2⟩ := hs
            have HS1 := Lib.hid hs1
            go_wp2_with fail
            have c1 := HA.out.write ((j : Int) % 4) ⟨#[120]⟩ (by decide)
            rw [hs2] at c1
            have C1 := Lib.hid c1
            clear c1 hs1 hs2
            refine C1.out.mono ?_
            rintro e w3 ⟨rfl, h, _⟩
            have H3 := Lib.hid h
            clear h C1
            go_wp2_with fail
            go_roundw
            case rel => exact ⟨j + 1, _, by go_num, hlt, H3.out, HS1.out⟩
            case measure => simp [intOf]; omega
          · have t1 : ¬ (j : Int) + 1 < (k : Int) := by omega
            have hs := HST.out.write ((j : Int) % 4) (by omega) (by omega) (s := [120]) (by decide)
            rw [show fuseE k j = 180 from by unfold fuseE; rw [if_neg (by omega)]] at hs
            obtain ⟨hs1, hs2⟩ := hs
            have HS1 := Lib.hid hs1
            go_wp2_with fail
            have c1 := HA.out.write ((j : Int) % 4) ⟨#[120]⟩ (by decide)
            rw [hs2] at c1
            have C1 := Lib.hid c1
            clear c1 hs1 hs2
            refine C1.out.mono ?_
            rintro e w3 ⟨rfl, h, _⟩
            have H3 := Lib.hid h
            clear h C1
            go_wp2_with fail
            go_roundw
            case rel => exact ⟨j + 1, _, by go_num, hlt, H3.out, HS1.out⟩
            case measure => simp [intOf]; omega
    · have hje : j = l.length := by omega
      subst hje
      have hoff := HST.out.off
      have hnot : ∀ (x : Bool) (w : World), (Op.unary .not (.bool x)).run Try.prog w = .ok (.bool (!x)) w := fun _ _ => rfl
      have HOFF := Lib.hid hoff
      clear hoff
      by_cases hk0 : k = 0
      · have t0 : ((k : Int) == 0) = true := beq_iff_eq.2 (by omega)
        have hk9 : k ≤ 0 := by omega
        clear hk0
        have ho : D.off = false := by rw [HOFF.out]; simp; omega
        have c1 := HA.out.up
        rw [ho] at c1
        have C1 := Lib.hid c1
        clear c1 ho
        go_wp2_with fail
        refine C1.out.mono ?_
        rintro e w3 ⟨rfl, rfl⟩
        go_wp2_with fail
        go_ret
        exact ⟨rfl, HA.out.bel⟩
      · have t0 : ((k : Int) == 0) = false := beq_eq_false_iff_ne.2 (by omega)
        by_cases hk1 : l.length < k
        · have t1 : (l.length : Int) < (k : Int) := by omega
          have ho : D.off = false := by rw [HOFF.out]; simp; omega
          have c1 := HA.out.up
          rw [ho] at c1
          have C1 := Lib.hid c1
          clear c1 ho
          go_wp2_with fail
          refine C1.out.mono ?_
          rintro e w3 ⟨rfl, rfl⟩
          go_wp2_with fail
          go_ret
          exact ⟨rfl, HA.out.bel⟩
        · have t1 : ¬ (l.length : Int) < (k : Int) := by omega
          have ho : D.off = true := by rw [HOFF.out]; simp; omega
          have c1 := HA.out.up
          rw [ho] at c1
          have C1 := Lib.hid c1
          clear c1 ho
          go_wp2_with fail
          refine C1.out.mono ?_
          rintro e w3 ⟨rfl, rfl⟩
          go_wp2_with fail
          go_ret
          exact ⟨rfl, HA.out.bel⟩

theorem fuse_walk (a0 : Int) (v : Value) (l : List Bool) (W : World) (h0 : (Lit.int .u8 a0).wf = true) (R : Rd.Reads W (.sl .bool) [v] l) :
    Calls Try.prog 5 #[.int .u8 a0, v] W fun e w' => e = .returned (.bool true) ∧ Below W.heap.size W w' := by
  obtain ⟨b0, b1⟩ := bounds_u8 h0
  obtain ⟨n, rfl⟩ := Int.eq_ofNat_of_zero_le b0
  by_cases hl : l.length ≤ 100
  · exact fuse_short n (by omega) v l W (Rd.row_bools R) hl
  · exact fuse_long n v l W (Rd.row_bools R) (by omega)
end Go.Proofs.Ytoafebndlldclaa.Dk
