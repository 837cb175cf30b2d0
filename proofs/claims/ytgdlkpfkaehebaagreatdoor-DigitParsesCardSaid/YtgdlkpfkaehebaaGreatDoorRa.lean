/- The document's small functions over rows of limbs (Trim, at, Cmp, Same, Of), and the law's held and shown. -/
import Derived.Test.YtgdlkpfkaehebaaGreatDoorPr
set_option linter.unusedVariables false
namespace Go.Proofs.YtgdlkpfkaehebaaGreatDoor.Ra
open Go Go.RowKit Go.Proofs.YtgdlkpfkaehebaaGreatDoorW.PrintWords Go.Proofs.YtgdlkpfkaehebaaGreatDoorW.PrintLast Go.Proofs.YtgdlkpfkaehebaaGreatDoorW.PrintMore
open Nt Lm Bs Pr

theorem Nw.lit0 (W : World) (lo : Nat) (h : lo ≤ W.heap.size) : Nw (W.alloc (.cells #[] 31)) lo (.slice (some ⟨W.heap.size, 0, none⟩) 0 0) [] := by
  refine ⟨fun _ _ => trivial, [], ?_, rfl, fun j p hj => by simp [ints] at hj⟩
  have h2 := World.ownsRow_lit (base := lo) (e := 31) (size := 1) W #[] 0 h (by simp [maxLen]) (by simp)
  exact h2

set_option maxHeartbeats 4000000 in
set_option maxRecDepth 100000 in
theorem trimR_call (A : Option Addr) (c : Nat) (l : List Nat) (w : World) (hr : Rw w A l) (hc : l.length ≤ c) (hl : l.length ≤ 1000000) :
    Calls Tryz.prog 81 #[.slice A l.length c] w fun e w' => ∃ v, e = .returned v ∧ Nw w' w.heap.size v (trimF l) ∧ Below w.heap.size w w' := by
  obtain ⟨i0, hi0, _, _, _⟩ := info_parts Cl.infoU
  have HI := Lib.hid hi0
  clear hi0
  have HR := Lib.hid hr
  clear hr
  have hfin : ∀ n, n ≤ l.length → l.take n = trimF l → Rw w A (trimF l) ∧ (trimF l).length = n := fun n h1 h2 => by
    have := HR.out.take h1
    rw [h2] at this
    exact ⟨this, by rw [← h2, List.length_take]; omega⟩
  have HFIN := Lib.hid hfin
  clear hfin
  go_enter Tryz.func81, Tryz.ntmps81
  go_wp2
  go_loop [3] (fun v => ∃ n : Nat, n ≤ l.length ∧ v = .int .i64 (n : Int) ∧ Hid (trimF (l.take n) = trimF l)) (fun v => (intOf v).toNat)
  case atStart => exact ⟨l.length, Nat.le_refl _, rfl, Lib.hid (by rw [List.take_length])⟩
  case round =>
    obtain ⟨n, hn, rfl, ht⟩ := hrel
    have hcut := cut_to (P := Tryz.prog) 23 31 .i64 Tryz.underlying23 HI.out A l.length c (n : Int) (by omega) (by omega) (by omega)
    rw [Int.toNat_natCast] at hcut
    by_cases h0 : n = 0
    · subst h0
      have e := ht.out
      simp only [List.take_zero, trimF] at e
      obtain ⟨hr2, hn2⟩ := HFIN.out 0 (by omega) (by rw [← e]; rfl)
      obtain ⟨t, hT⟩ : ∃ t, t = trimF l := ⟨_, rfl⟩
      rw [← hT] at hr2 hn2
      have HR2 := Lib.hid hr2
      have HTE := Lib.hid hT
      clear hr2 hT e
      go_wp2_with (at_builtin; refine app_n (w0 := w) w.heap.size rfl _ _ rfl (.slice (some ⟨w.heap.size, 0, none⟩) 0 0) [] t A c rfl (by rw [hn2]; rfl) (Nw.lit0 _ _ (Nat.le_refl _)) (HR2.out.below (below_alloc (Below.refl _ _) _)) (below_alloc (Below.refl _ _) _) (by simp) (by simp; omega) ?_; intro vv w1 hv1 hb1 hg1 hat1; rw [List.nil_append, HTE.out] at hv1)
      go_ret
      exact ⟨_, rfl, hv1, hb1⟩
    · obtain ⟨k, rfl⟩ : ∃ k, n = k + 1 := ⟨n - 1, by omega⟩
      obtain ⟨ad, e, hx⟩ := HR.out.at k (by omega)
      cases e
      have hj : IntKind.i64.wrap (((k + 1 : Nat) : Int) - 1) = (k : Int) := by rw [show (((k + 1 : Nat) : Int) - 1) = (k : Int) by omega]; exact IntWalk.i64_in _ (by omega)
      have hgt : (0 : Int) < ((k + 1 : Nat) : Int) := by omega
      by_cases hz : atL l k = 0
      · rw [hz] at hx
        clear hcut
        go_wp2
        go_round
        case rel => exact ⟨k, by omega, by first | rfl | (rw [hj]), Lib.hid (by rw [← ht.out, take_at (by omega), hz, trimF_zero])⟩
        case measure => simp [intOf]
      · have hz1 : ((atL l k : Nat) : Int) ≠ 0 := by omega
        have hzb : (((atL l k : Nat) : Int) == 0) = false := by simpa using hz
        have e := ht.out
        rw [take_at (by omega), trimF_last _ hz, ← take_at (by omega)] at e
        obtain ⟨hr2, hn2⟩ := HFIN.out (k + 1) (by omega) e
        obtain ⟨t, hT⟩ : ∃ t, t = trimF l := ⟨_, rfl⟩
        rw [← hT] at hr2 hn2
        have HR2 := Lib.hid hr2
        have HTE := Lib.hid hT
        clear hr2 hT e
        go_wp2_with (at_builtin; refine app_n (w0 := w) w.heap.size rfl _ _ rfl (.slice (some ⟨w.heap.size, 0, none⟩) 0 0) [] t (some ad) c rfl (by rw [hn2]; rfl) (Nw.lit0 _ _ (Nat.le_refl _)) (HR2.out.below (below_alloc (Below.refl _ _) _)) (below_alloc (Below.refl _ _) _) (by simp) (by simp; omega) ?_; intro vv w1 hv1 hb1 hg1 hat1; rw [List.nil_append, HTE.out] at hv1)
        go_ret
        exact ⟨_, rfl, hv1, hb1⟩

set_option maxHeartbeats 1000000 in
theorem at_call (A : Option Addr) (c : Nat) (l : List Nat) (i : Nat) (w : World) (hr : Rw w A l) (hl : l.length ≤ 1000000) (hi : i ≤ 1000000) :
    Calls Tryz.prog 62 #[.slice A l.length c, .int .i64 (i : Int)] w fun e w' => e = .returned (.int .u64 (atL l i : Int)) ∧ w = w' := by
  by_cases h : i < l.length
  · obtain ⟨ad, e, hx⟩ := hr.at i h
    cases e
    have h' : (i : Int) < (l.length : Int) := by omega
    obtain ⟨x, hxx⟩ : ∃ x, x = atL l i := ⟨_, rfl⟩
    rw [← hxx] at hx ⊢
    clear hr hxx
    go_enter Tryz.func62, Tryz.ntmps62
    go_wp2
    go_ret
    exact ⟨rfl, rfl⟩
  · have h' : ¬ (i : Int) < (l.length : Int) := by omega
    have e : atL l i = 0 := by unfold atL; rw [List.getD_eq_getElem?_getD, List.getElem?_eq_none (by omega)]; rfl
    rw [e]
    clear hr e
    go_enter Tryz.func62, Tryz.ntmps62
    go_wp2
    go_ret
    exact ⟨rfl, rfl⟩

/-- 2 to the 64 as a text -/
def t64 : ByteArray := { data := #[49, 56, 52, 52, 54, 55, 52, 52, 48, 55, 51, 55, 48, 57, 53, 53, 49, 54, 49, 54] }
theorem text64 : ba (text (val [0, 1])) = t64 := by
  have e : val [0, 1] = 18446744073709551616 := by simp [val]
  have h := strip_decK 20 18446744073709551616 (by decide)
  have h2 : stripZ (decK 20 18446744073709551616) = t64.data.toList := by decide +kernel
  have h3 : text 18446744073709551616 = t64.data.toList := by unfold text; rw [if_neg (by decide), ← h, h2]
  rw [e, h3]
  rfl
theorem Rw.lit2 (W : World) (x y : Nat) : Rw (W.alloc (.cells #[.int .u64 (x : Int), .int .u64 (y : Int)] 31)) (some ⟨W.heap.size, 0, none⟩) [x, y] := by
  have h2 := World.ownsRow_lit (base := W.heap.size) (e := 31) (size := 1) W #[.int .u64 (x : Int), .int .u64 (y : Int)] 2 (Nat.le_refl _) (by simp [maxLen]) (by simp)
  have h : Nw (W.alloc (.cells #[.int .u64 (x : Int), .int .u64 (y : Int)] 31)) W.heap.size (.slice (some ⟨W.heap.size, 0, none⟩) 2 2) [x, y] := by
    refine ⟨fun _ _ => trivial, [.int .u64 (x : Int), .int .u64 (y : Int)], h2, rfl, fun j p hj => ?_⟩
    rcases j with _ | _ | j
    · simp [ints] at hj; subst hj; rfl
    · simp [ints] at hj; subst hj; rfl
    · simp [ints] at hj
  obtain ⟨A, c, e, _, h3⟩ := h.open
  injection e with e1 e2 e3
  rw [e1]
  exact h3

set_option maxHeartbeats 1000000 in
theorem shown_call (w : World) (hp : Fu.Pow w) : Calls Tryz.prog 4 #[] w fun e w' => e = .returned (.bool true) ∧ Below w.heap.size w w' := by
  have HP := Lib.hid (print_call (some ⟨w.heap.size, 0, none⟩) 2 [0, 1] _ (Rw.lit2 w 0 1) (by decide) (fun y hy => by simp at hy; omega) (by simp) (pow_from hp (below_alloc (Below.refl _ _) _)))
  rw [text64] at HP
  obtain ⟨s, hs⟩ : ∃ s, s = t64 := ⟨_, rfl⟩
  rw [← hs] at HP
  have HS := Lib.hid hs
  clear hs hp
  go_enter Tryz.func4, Tryz.ntmps4
  go_wp2_with (go_at_call 8; refine (HP.out).mono ?_; rintro e w' ⟨rfl, hb⟩)
  have HB := Lib.hid hb
  go_ret
  refine ⟨?_, (below_alloc (Below.refl _ _) _).trans (HB.out.mono (by simp))⟩
  rw [HS.out]
  have e : t64.toList = [49, 56, 52, 52, 54, 55, 52, 52, 48, 55, 51, 55, 48, 57, 53, 53, 49, 54, 49, 54] := by rw [ByteArray.toList_eq]; rfl
  simp [e]

/-- comparison of two rows, from position m downwards -/
def cmpF (a b : List Nat) : Nat → Int
  | 0 => 0
  | m + 1 => if atL a m < atL b m then -1 else if atL b m < atL a m then 1 else cmpF a b m

theorem atL_ext {a b : List Nat} (hl : a.length = b.length) (h : ∀ i, i < a.length → atL a i = atL b i) : a = b := by
  refine List.ext_getElem hl fun i h1 h2 => ?_
  have := h i h1
  unfold atL at this
  rw [List.getD_eq_getElem?_getD, List.getD_eq_getElem?_getD, List.getElem?_eq_getElem h1, List.getElem?_eq_getElem h2] at this
  exact this

set_option maxHeartbeats 4000000 in
set_option maxRecDepth 100000 in
theorem same01_call (A B : Option Addr) (c d : Nat) (a b : List Nat) (w : World) (hr : Rw w A a) (hr2 : Rw w B b) (hl : a.length ≤ 1000000) (hl2 : b.length ≤ 1000000) :
    Calls Tryz.prog 13 #[.slice A a.length c, .slice B b.length d] w fun e w' => e = .returned (.bool (decide (a = b))) ∧ Below w.heap.size w w' := by
  by_cases hlen : a.length = b.length
  · obtain ⟨n, hn⟩ : ∃ n, n = a.length := ⟨_, rfl⟩
    rw [← hlen, ← hn]
    have HA := Lib.hid (fun i hi => hr.at i hi)
    have HB := Lib.hid (fun i hi => hr2.at i hi)
    have HE := Lib.hid (fun h => atL_ext hlen h)
    have HN := Lib.hid hn
    have hnl : n ≤ 1000000 := by omega
    have HBB := Lib.hid hlen
    clear hr hr2 hl hl2 hn hlen
    obtain ⟨R, hR⟩ : ∃ R, R = decide (a = b) := ⟨_, rfl⟩
    rw [← hR]
    have HR := Lib.hid hR
    clear hR
    go_enter Tryz.func13, Tryz.ntmps13
    go_wp2
    go_loopw [5] (fun v wr => ∃ i : Nat, i ≤ n ∧ v = .int .i64 (i : Int) ∧ Hid (∀ j, j < i → atL a j = atL b j) ∧ Hid (Below w.heap.size w wr)) (fun v _ => n - (intOf v).toNat)
    case atStart => exact ⟨0, by omega, rfl, Lib.hid (fun j hj => absurd hj (by omega)), Lib.hid (Below.refl _ _)⟩
    case round =>
      obtain ⟨i, hi, rfl, hj, hB⟩ := hrel
      by_cases hin : i < n
      · obtain ⟨ad, e, hx⟩ := HA.out i (by rw [← HN.out]; exact hin)
        cases e
        obtain ⟨bd, e, hy⟩ := HB.out i (by rw [← HBB.out, ← HN.out]; exact hin)
        cases e
        replace hx := (hB.out.cell (World.block_lt_of_cell? w _ hx)).trans hx
        replace hy := (hB.out.cell (World.block_lt_of_cell? w _ hy)).trans hy
        have hin' : (i : Int) < (n : Int) := by omega
        obtain ⟨x, hxx⟩ : ∃ x, x = atL a i := ⟨_, rfl⟩
        obtain ⟨y, hyy⟩ : ∃ y, y = atL b i := ⟨_, rfl⟩
        rw [← hxx] at hx
        rw [← hyy] at hy
        by_cases hxy : x = y
        · have hxyb : ((x : Int) != (y : Int)) = false := by simp [hxy]
          have HJ := Lib.hid (show ∀ j, j < i + 1 → atL a j = atL b j from fun j h => by
            by_cases e : j = i
            · rw [e, ← hxx, ← hyy, hxy]
            · exact hj.out j (by omega))
          clear hxx hyy hxy hj
          go_wp2_with fail
          go_quiet (fail)
          go_wp2_with fail
          go_roundw
          case rel => exact ⟨i + 1, by omega, by go_num, HJ, Lib.hid (by first | exact hB.out | exact pw_below_drewN hB.out _ | exact below_drew hB.out)⟩
          case measure => simp [intOf]; omega
        · have hxyb : ((x : Int) != (y : Int)) = true := bne_iff_ne.mpr (by omega)
          have e : R = false := by
            rw [HR.out]
            exact decide_eq_false (fun e => hxy (by rw [hxx, hyy, e]))
          clear hxx hyy hxy hj
          go_wp2_with fail
          go_quiet (fail)
          go_wp2_with fail
          go_ret
          exact ⟨by first | rfl | (rw [e]; done) | (rw [e]; rfl), by first | exact hB.out | exact pw_below_drewN hB.out _ | exact below_drew hB.out⟩
      · have e : R = true := by
          rw [HR.out]
          exact decide_eq_true (HE.out (fun k hk => hj.out k (by rw [← HN.out] at hk; omega)))
        have hin' : ¬ (i : Int) < (n : Int) := by omega
        go_wp2
        go_ret
        exact ⟨by first | rfl | rw [e], hB.out⟩
  · have e : decide (a = b) = false := decide_eq_false (fun e => hlen (by rw [e]))
    have h1 : ((a.length : Int) != (b.length : Int)) = true := bne_iff_ne.mpr (by omega)
    rw [e]
    clear hr hr2 e
    go_enter Tryz.func13, Tryz.ntmps13
    go_wp2
    go_ret
    exact ⟨rfl, Below.refl _ _⟩

set_option maxHeartbeats 1000000 in
theorem same_call (A B : Option Addr) (c d : Nat) (a b : List Nat) (w : World) (hr : Rw w A a) (hr2 : Rw w B b) (hl : a.length ≤ 1000000) (hl2 : b.length ≤ 1000000) :
    Calls Tryz.prog 7 #[.slice A a.length c, .slice B b.length d] w fun e w' => e = .returned (.bool (decide (a = b))) ∧ Below w.heap.size w w' := by
  have HS := Lib.hid (same01_call A B c d a b w hr hr2 hl hl2)
  clear hr hr2
  obtain ⟨R, hR⟩ : ∃ R, R = decide (a = b) := ⟨_, rfl⟩
  rw [← hR] at HS ⊢
  clear hR
  go_enter Tryz.func7, Tryz.ntmps7
  go_wp2_with (go_at_call 13; refine (HS.out).mono ?_; rintro e w' ⟨rfl, hb⟩)
  go_ret
  exact ⟨rfl, hb⟩

end Go.Proofs.YtgdlkpfkaehebaaGreatDoor.Ra
