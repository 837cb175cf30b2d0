/- The document's small functions over rows of limbs (Trim, at, Cmp, Same, Of), and the law's held and shown. -/
import Derived.Test.YtgdlkpfkaehebaaDoorPr
set_option linter.unusedVariables false
namespace Go.Proofs.YtgdlkpfkaehebaaDoor.Ra
open Go Go.RowKit Go.Proofs.YtgdlkpfkaehebaaDoorW.PrintWords Go.Proofs.YtgdlkpfkaehebaaDoorW.PrintLast Go.Proofs.YtgdlkpfkaehebaaDoorW.PrintMore
open Nt Lm Bs Pr

theorem Nw.lit0 (W : World) (lo : Nat) (h : lo ≤ W.heap.size) : Nw (W.alloc (.cells #[] 29)) lo (.slice (some ⟨W.heap.size, 0, none⟩) 0 0) [] := by
  refine ⟨fun _ _ => trivial, [], ?_, rfl, fun j p hj => by simp [ints] at hj⟩
  have h2 := World.ownsRow_lit (base := lo) (e := 29) (size := 1) W #[] 0 h (by simp [maxLen]) (by simp)
  exact h2

set_option maxHeartbeats 4000000 in
set_option maxRecDepth 100000 in
theorem trimR_call (A : Option Addr) (c : Nat) (l : List Nat) (w : World) (hr : Rw w A l) (hc : l.length ≤ c) (hl : l.length ≤ 1000000) :
    Calls Tryd.prog 19 #[.slice A l.length c] w fun e w' => ∃ v, e = .returned v ∧ Nw w' w.heap.size v (trimF l) ∧ Below w.heap.size w w' := by
  obtain ⟨i0, hi0, _, _, _⟩ := info_parts Cl.infoU
  have HI := Lib.hid hi0
  clear hi0
  have HR := Lib.hid hr
  clear hr
  have hfin : ∀ n, n ≤ l.length → l.take n = trimF l → Rw w A (trimF l) ∧ (trimF l).length = n := fun n h1 h2 => by
    have := HR.out.take h1
    rw [h2] at this
    exact ⟨this, by rw [← h2, List.length_take]; omega⟩
  have HFIN := Lib.hid hfin
  clear hfin
  go_enter Tryd.func19, Tryd.ntmps19
  go_wp2
  go_loop [3] (fun v => ∃ n : Nat, n ≤ l.length ∧ v = .int .i64 (n : Int) ∧ Hid (trimF (l.take n) = trimF l)) (fun v => (intOf v).toNat)
  case atStart => exact ⟨l.length, Nat.le_refl _, rfl, Lib.hid (by rw [List.take_length])⟩
  case round =>
    obtain ⟨n, hn, rfl, ht⟩ := hrel
    have hcut := cut_to (P := Tryd.prog) 22 29 .i64 Tryd.underlying22 HI.out A l.length c (n : Int) (by omega) (by omega) (by omega)
    rw [Int.toNat_natCast] at hcut
    by_cases h0 : n = 0
    · subst h0
      have e := ht.out
      simp only [List.take_zero, trimF] at e
      obtain ⟨hr2, hn2⟩ := HFIN.out 0 (by omega) (by rw [← e]; rfl)
      obtain ⟨t, hT⟩ : ∃ t, t = trimF l := ⟨_, rfl⟩
      rw [← hT] at hr2 hn2
      have HR2 := Lib.hid hr2
      have HTE := Lib.hid hT
      clear hr2 hT e
      go_wp2_with (at_builtin; refine app_n (w0 := w) w.heap.size rfl _ _ rfl (.slice (some ⟨w.heap.size, 0, none⟩) 0 0) [] t A c rfl (by rw [hn2]; rfl) (Nw.lit0 _ _ (Nat.le_refl _)) (HR2.out.below (below_alloc (Below.refl _ _) _)) (below_alloc (Below.refl _ _) _) (by simp) (by simp; omega) ?_; intro vv w1 hv1 hb1 hg1 hat1; rw [List.nil_append, HTE.out] at hv1)
      go_ret
      exact ⟨_, rfl, hv1, hb1⟩
    · obtain ⟨k, rfl⟩ : ∃ k, n = k + 1 := ⟨n - 1, by omega⟩
      obtain ⟨ad, e, hx⟩ := HR.out.at k (by omega)
      cases e
      have hj : IntKind.i64.wrap (((k + 1 : Nat) : Int) - 1) = (k : Int) := by rw [show (((k + 1 : Nat) : Int) - 1) = (k : Int) by omega]; exact IntWalk.i64_in _ (by omega)
      have hgt : (0 : Int) < ((k + 1 : Nat) : Int) := by omega
      by_cases hz : atL l k = 0
      · rw [hz] at hx
        clear hcut
        go_wp2
        go_round
        case rel => exact ⟨k, by omega, by first | rfl | (rw [hj]), Lib.hid (by rw [← ht.out, take_at (by omega), hz, trimF_zero])⟩
        case measure => simp [intOf]
      · have hz1 : ((atL l k : Nat) : Int) ≠ 0 := by omega
        have hzb : (((atL l k : Nat) : Int) == 0) = false := by simpa using hz
        have e := ht.out
        rw [take_at (by omega), trimF_last _ hz, ← take_at (by omega)] at e
        obtain ⟨hr2, hn2⟩ := HFIN.out (k + 1) (by omega) e
        obtain ⟨t, hT⟩ : ∃ t, t = trimF l := ⟨_, rfl⟩
        rw [← hT] at hr2 hn2
        have HR2 := Lib.hid hr2
        have HTE := Lib.hid hT
        clear hr2 hT e
        go_wp2_with (at_builtin; refine app_n (w0 := w) w.heap.size rfl _ _ rfl (.slice (some ⟨w.heap.size, 0, none⟩) 0 0) [] t (some ad) c rfl (by rw [hn2]; rfl) (Nw.lit0 _ _ (Nat.le_refl _)) (HR2.out.below (below_alloc (Below.refl _ _) _)) (below_alloc (Below.refl _ _) _) (by simp) (by simp; omega) ?_; intro vv w1 hv1 hb1 hg1 hat1; rw [List.nil_append, HTE.out] at hv1)
        go_ret
        exact ⟨_, rfl, hv1, hb1⟩

set_option maxHeartbeats 1000000 in
theorem at_call (A : Option Addr) (c : Nat) (l : List Nat) (i : Nat) (w : World) (hr : Rw w A l) (hl : l.length ≤ 1000000) (hi : i ≤ 1000000) :
    Calls Tryd.prog 25 #[.slice A l.length c, .int .i64 (i : Int)] w fun e w' => e = .returned (.int .u64 (atL l i : Int)) ∧ w = w' := by
  by_cases h : i < l.length
  · obtain ⟨ad, e, hx⟩ := hr.at i h
    cases e
    have h' : (i : Int) < (l.length : Int) := by omega
    obtain ⟨x, hxx⟩ : ∃ x, x = atL l i := ⟨_, rfl⟩
    rw [← hxx] at hx ⊢
    clear hr hxx
    go_enter Tryd.func25, Tryd.ntmps25
    go_wp2
    go_ret
    exact ⟨rfl, rfl⟩
  · have h' : ¬ (i : Int) < (l.length : Int) := by omega
    have e : atL l i = 0 := by unfold atL; rw [List.getD_eq_getElem?_getD, List.getElem?_eq_none (by omega)]; rfl
    rw [e]
    clear hr e
    go_enter Tryd.func25, Tryd.ntmps25
    go_wp2
    go_ret
    exact ⟨rfl, rfl⟩

set_option maxHeartbeats 1000000 in
set_option maxRecDepth 100000 in
theorem held_call (A : Option Addr) (c : Nat) (l : List Nat) (w : World) (hr : Rw w A l) (hc : l.length ≤ c) (hl : l.length ≤ 9223372036854775807) :
    Calls Tryd.prog 8 #[.slice A l.length c] w fun e w' => ∃ v, e = .returned v ∧ Nw w' w.heap.size v (trimF (l.take 8)) ∧ Below w.heap.size w w' := by
  obtain ⟨i0, hi0, _, _, _⟩ := info_parts Cl.infoU
  have HI := Lib.hid hi0
  clear hi0
  obtain ⟨m, hm⟩ : ∃ m, m = min l.length 8 := ⟨_, rfl⟩
  have hm1 : m ≤ l.length := by omega
  have hcut := cut_to (P := Tryd.prog) 22 29 .i64 Tryd.underlying22 HI.out A l.length c (m : Int) (by omega) (by omega) (by omega)
  rw [Int.toNat_natCast] at hcut
  have e8 : l.take 8 = l.take m := by
    rcases Nat.le_total l.length 8 with h | h
    · rw [List.take_of_length_le h, List.take_of_length_le (by omega)]
    · rw [show m = 8 by omega]
  have el : (l.take m).length = m := by rw [List.length_take]; omega
  have HT := trimR_call A c (l.take m) w (hr.take hm1) (by omega) (by omega)
  rw [el] at HT
  rw [e8]
  have HTT := Lib.hid HT
  have hmin : (min (l.length : Int) 8) = (m : Int) := by omega
  clear HT hr e8 el
  go_enter Tryd.func8, Tryd.ntmps8
  go_wp2_with (go_at_call 19; rw [← hm]; refine (HTT.out).mono ?_; rintro e w' ⟨v, rfl, hv, hb⟩)
  go_ret
  exact ⟨_, rfl, hv, hb⟩

/-- 2 to the 64 as a text -/
def t64 : ByteArray := { data := #[49, 56, 52, 52, 54, 55, 52, 52, 48, 55, 51, 55, 48, 57, 53, 53, 49, 54, 49, 54] }
theorem text64 : ba (text (val [0, 1])) = t64 := by
  have e : val [0, 1] = 18446744073709551616 := by simp [val]
  have h := strip_decK 20 18446744073709551616 (by decide)
  have h2 : stripZ (decK 20 18446744073709551616) = t64.data.toList := by decide +kernel
  have h3 : text 18446744073709551616 = t64.data.toList := by unfold text; rw [if_neg (by decide), ← h, h2]
  rw [e, h3]
  rfl
theorem Rw.lit2 (W : World) (x y : Nat) : Rw (W.alloc (.cells #[.int .u64 (x : Int), .int .u64 (y : Int)] 29)) (some ⟨W.heap.size, 0, none⟩) [x, y] := by
  have h2 := World.ownsRow_lit (base := W.heap.size) (e := 29) (size := 1) W #[.int .u64 (x : Int), .int .u64 (y : Int)] 2 (Nat.le_refl _) (by simp [maxLen]) (by simp)
  have h : Nw (W.alloc (.cells #[.int .u64 (x : Int), .int .u64 (y : Int)] 29)) W.heap.size (.slice (some ⟨W.heap.size, 0, none⟩) 2 2) [x, y] := by
    refine ⟨fun _ _ => trivial, [.int .u64 (x : Int), .int .u64 (y : Int)], h2, rfl, fun j p hj => ?_⟩
    rcases j with _ | _ | j
    · simp [ints] at hj; subst hj; rfl
    · simp [ints] at hj; subst hj; rfl
    · simp [ints] at hj
  obtain ⟨A, c, e, _, h3⟩ := h.open
  injection e with e1 e2 e3
  rw [e1]
  exact h3

set_option maxHeartbeats 1000000 in
theorem shown_call (w : World) (hp : Fu.Pow w) : Calls Tryd.prog 11 #[] w fun e w' => e = .returned (.bool true) ∧ Below w.heap.size w w' := by
  have HP := Lib.hid (print_call (some ⟨w.heap.size, 0, none⟩) 2 [0, 1] _ (Rw.lit2 w 0 1) (by decide) (fun y hy => by simp at hy; omega) (by simp) (pow_from hp (below_alloc (Below.refl _ _) _)))
  rw [text64] at HP
  obtain ⟨s, hs⟩ : ∃ s, s = t64 := ⟨_, rfl⟩
  rw [← hs] at HP
  have HS := Lib.hid hs
  clear hs hp
  go_enter Tryd.func11, Tryd.ntmps11
  go_wp2_with (go_at_call 9; refine (HP.out).mono ?_; rintro e w' ⟨rfl, hb⟩)
  have HB := Lib.hid hb
  go_ret
  refine ⟨?_, (below_alloc (Below.refl _ _) _).trans (HB.out.mono (by simp))⟩
  rw [HS.out]
  have e : t64.toList = [49, 56, 52, 52, 54, 55, 52, 52, 48, 55, 51, 55, 48, 57, 53, 53, 49, 54, 49, 54] := by rw [ByteArray.toList_eq]; rfl
  simp [e]

/-- comparison of two rows, from position m downwards -/
def cmpF (a b : List Nat) : Nat → Int
  | 0 => 0
  | m + 1 => if atL a m < atL b m then -1 else if atL b m < atL a m then 1 else cmpF a b m

set_option maxHeartbeats 4000000 in
set_option maxRecDepth 100000 in
theorem cmp_call (A B : Option Addr) (c d : Nat) (a b : List Nat) (w : World) (hr : Rw w A a) (hr2 : Rw w B b) (hl : a.length ≤ 1000000) (hl2 : b.length ≤ 1000000) :
    Calls Tryd.prog 10 #[.slice A a.length c, .slice B b.length d] w fun e w' => e = .returned (.int .i64 (cmpF a b (max a.length b.length))) ∧ w = w' := by
  have HA := Lib.hid (fun i hi => at_call A c a i w hr hl hi)
  have HB := Lib.hid (fun i hi => at_call B d b i w hr2 hl2 hi)
  clear hr hr2
  obtain ⟨M, hM⟩ : ∃ M, M = max a.length b.length := ⟨_, rfl⟩
  have hM2 : M ≤ 1000000 := by omega
  have hw0 : IntKind.i64.wrap ((M : Int) - 1) = (M : Int) - 1 := IntWalk.i64_in _ (by omega)
  rw [← hM]
  have hmax : (max (a.length : Int) (b.length : Int)) = (M : Int) := by omega
  obtain ⟨R, hR⟩ : ∃ R, R = cmpF a b M := ⟨_, rfl⟩
  rw [← hR]
  have HR := Lib.hid hR
  clear hR
  go_enter Tryd.func10, Tryd.ntmps10
  go_wp2
  go_loop [5] (fun v => ∃ (n : Nat) (iv : Int), n ≤ M ∧ v = .int .i64 iv ∧ iv + 1 = (n : Int) ∧ Hid (cmpF a b n = R)) (fun v => ((intOf v) + 1).toNat)
  case atStart => exact ⟨M, (M : Int) - 1, Nat.le_refl _, by first | rfl | (rw [← hM]), by omega, Lib.hid (HR.out.symm)⟩
  case round =>
    clear hw0
    obtain ⟨n, iv, hn, rfl, hiv, hq⟩ := hrel
    rcases n with _ | k
    · obtain rfl : iv = -1 := by omega
      have e := hq.out
      simp only [cmpF] at e
      go_wp2
      go_ret
      rw [← e]
      exact ⟨rfl, rfl⟩
    · obtain rfl : iv = (k : Int) := by omega
      have HAK := Lib.hid (HA.out k (by omega))
      have HBK := Lib.hid (HB.out k (by omega))
      have e := hq.out
      rw [cmpF] at e
      obtain ⟨x, hx⟩ : ∃ x, x = atL a k := ⟨_, rfl⟩
      obtain ⟨y, hy⟩ : ∃ y, y = atL b k := ⟨_, rfl⟩
      rw [← hx] at HAK e
      rw [← hy] at HBK e
      clear hx hy
      by_cases h1 : x < y
      · rw [if_pos h1] at e
        have h1' : (x : Int) < (y : Int) := by omega
        go_wp2_with fail
        refine (HAK.out).mono ?_
        rintro e w' ⟨rfl, rfl⟩
        go_wp2_with fail
        refine (HBK.out).mono ?_
        rintro e w' ⟨rfl, rfl⟩
        go_wp2
        go_ret
        rw [← e]
        exact ⟨rfl, rfl⟩
      · rw [if_neg h1] at e
        have h1' : ¬ (x : Int) < (y : Int) := by omega
        by_cases h2 : y < x
        · rw [if_pos h2] at e
          have h2' : (y : Int) < (x : Int) := by omega
          go_wp2_with fail
          refine (HAK.out).mono ?_
          rintro e w' ⟨rfl, rfl⟩
          go_wp2_with fail
          refine (HBK.out).mono ?_
          rintro e w' ⟨rfl, rfl⟩
          go_wp2_with fail
          refine (HAK.out).mono ?_
          rintro e w' ⟨rfl, rfl⟩
          go_wp2_with fail
          refine (HBK.out).mono ?_
          rintro e w' ⟨rfl, rfl⟩
          go_wp2
          go_ret
          rw [← e]
          exact ⟨rfl, rfl⟩
        · rw [if_neg h2] at e
          have h2' : ¬ (y : Int) < (x : Int) := by omega
          have HE := Lib.hid e
          clear e
          go_wp2_with fail
          refine (HAK.out).mono ?_
          rintro e w' ⟨rfl, rfl⟩
          go_wp2_with fail
          refine (HBK.out).mono ?_
          rintro e w' ⟨rfl, rfl⟩
          go_wp2_with fail
          refine (HAK.out).mono ?_
          rintro e w' ⟨rfl, rfl⟩
          go_wp2_with fail
          refine (HBK.out).mono ?_
          rintro e w' ⟨rfl, rfl⟩
          go_wp2
          go_round
          case rel => exact ⟨k, (k : Int) - 1, by omega, by first | rfl | go_num, by omega, HE⟩
          case measure => simp [intOf]

theorem atL_ext {a b : List Nat} (hl : a.length = b.length) (h : ∀ i, i < a.length → atL a i = atL b i) : a = b := by
  refine List.ext_getElem hl fun i h1 h2 => ?_
  have := h i h1
  unfold atL at this
  rw [List.getD_eq_getElem?_getD, List.getD_eq_getElem?_getD, List.getElem?_eq_getElem h1, List.getElem?_eq_getElem h2] at this
  exact this

set_option maxHeartbeats 4000000 in
set_option maxRecDepth 100000 in
theorem same01_call (A B : Option Addr) (c d : Nat) (a b : List Nat) (w : World) (hr : Rw w A a) (hr2 : Rw w B b) (hl : a.length ≤ 1000000) (hl2 : b.length ≤ 1000000) :
    Calls Tryd.prog 30 #[.slice A a.length c, .slice B b.length d] w fun e w' => e = .returned (.bool (decide (a = b))) ∧ Below w.heap.size w w' := by
  by_cases hlen : a.length = b.length
  · obtain ⟨n, hn⟩ : ∃ n, n = a.length := ⟨_, rfl⟩
    rw [← hlen, ← hn]
    have HA := Lib.hid (fun i hi => hr.at i hi)
    have HB := Lib.hid (fun i hi => hr2.at i hi)
    have HE := Lib.hid (fun h => atL_ext hlen h)
    have HN := Lib.hid hn
    have hnl : n ≤ 1000000 := by omega
    have HBB := Lib.hid hlen
    clear hr hr2 hl hl2 hn hlen
    obtain ⟨R, hR⟩ : ∃ R, R = decide (a = b) := ⟨_, rfl⟩
    rw [← hR]
    have HR := Lib.hid hR
    clear hR
    go_enter Tryd.func30, Tryd.ntmps30
    go_wp2
    go_loopw [5] (fun v wr => ∃ i : Nat, i ≤ n ∧ v = .int .i64 (i : Int) ∧ Hid (∀ j, j < i → atL a j = atL b j) ∧ Hid (Below w.heap.size w wr)) (fun v _ => n - (intOf v).toNat)
    case atStart => exact ⟨0, by omega, rfl, Lib.hid (fun j hj => absurd hj (by omega)), Lib.hid (Below.refl _ _)⟩
    case round =>
      obtain ⟨i, hi, rfl, hj, hB⟩ := hrel
      by_cases hin : i < n
      · obtain ⟨ad, e, hx⟩ := HA.out i (by rw [← HN.out]; exact hin)
        cases e
        obtain ⟨bd, e, hy⟩ := HB.out i (by rw [← HBB.out, ← HN.out]; exact hin)
        cases e
        replace hx := (hB.out.cell (World.block_lt_of_cell? w _ hx)).trans hx
        replace hy := (hB.out.cell (World.block_lt_of_cell? w _ hy)).trans hy
        have hin' : (i : Int) < (n : Int) := by omega
        obtain ⟨x, hxx⟩ : ∃ x, x = atL a i := ⟨_, rfl⟩
        obtain ⟨y, hyy⟩ : ∃ y, y = atL b i := ⟨_, rfl⟩
        rw [← hxx] at hx
        rw [← hyy] at hy
        by_cases hxy : x = y
        · have hxyb : ((x : Int) != (y : Int)) = false := by simp [hxy]
          have HJ := Lib.hid (show ∀ j, j < i + 1 → atL a j = atL b j from fun j h => by
            by_cases e : j = i
            · rw [e, ← hxx, ← hyy, hxy]
            · exact hj.out j (by omega))
          clear hxx hyy hxy hj
          go_wp2_with fail
          go_quiet (fail)
          go_wp2_with fail
          go_roundw
          case rel => exact ⟨i + 1, by omega, by go_num, HJ, Lib.hid (by first | exact hB.out | exact pw_below_drewN hB.out _ | exact below_drew hB.out)⟩
          case measure => simp [intOf]; omega
        · have hxyb : ((x : Int) != (y : Int)) = true := bne_iff_ne.mpr (by omega)
          have e : R = false := by
            rw [HR.out]
            exact decide_eq_false (fun e => hxy (by rw [hxx, hyy, e]))
          clear hxx hyy hxy hj
          go_wp2_with fail
          go_quiet (fail)
          go_wp2_with fail
          go_ret
          exact ⟨by first | rfl | (rw [e]; done) | (rw [e]; rfl), by first | exact hB.out | exact pw_below_drewN hB.out _ | exact below_drew hB.out⟩
      · have e : R = true := by
          rw [HR.out]
          exact decide_eq_true (HE.out (fun k hk => hj.out k (by rw [← HN.out] at hk; omega)))
        have hin' : ¬ (i : Int) < (n : Int) := by omega
        go_wp2
        go_ret
        exact ⟨by first | rfl | rw [e], hB.out⟩
  · have e : decide (a = b) = false := decide_eq_false (fun e => hlen (by rw [e]))
    have h1 : ((a.length : Int) != (b.length : Int)) = true := bne_iff_ne.mpr (by omega)
    rw [e]
    clear hr hr2 e
    go_enter Tryd.func30, Tryd.ntmps30
    go_wp2
    go_ret
    exact ⟨rfl, Below.refl _ _⟩

set_option maxHeartbeats 1000000 in
theorem same_call (A B : Option Addr) (c d : Nat) (a b : List Nat) (w : World) (hr : Rw w A a) (hr2 : Rw w B b) (hl : a.length ≤ 1000000) (hl2 : b.length ≤ 1000000) :
    Calls Tryd.prog 17 #[.slice A a.length c, .slice B b.length d] w fun e w' => e = .returned (.bool (decide (a = b))) ∧ Below w.heap.size w w' := by
  have HS := Lib.hid (same01_call A B c d a b w hr hr2 hl hl2)
  clear hr hr2
  obtain ⟨R, hR⟩ : ∃ R, R = decide (a = b) := ⟨_, rfl⟩
  rw [← hR] at HS ⊢
  clear hR
  go_enter Tryd.func17, Tryd.ntmps17
  go_wp2_with (go_at_call 30; refine (HS.out).mono ?_; rintro e w' ⟨rfl, hb⟩)
  go_ret
  exact ⟨rfl, hb⟩

set_option maxHeartbeats 1000000 in
theorem of_call (n : Nat) (w : World) : Calls Tryd.prog 13 #[.int .u64 (n : Int)] w fun e w' => ∃ v, e = .returned v ∧ Nw w' w.heap.size v (trimF [n]) ∧ Below w.heap.size w w' := by
  have HT := Lib.hid (trimR_call (some ⟨w.heap.size, 0, none⟩) 1 [n] _ (Rw.one w n) (by simp) (by simp))
  go_enter Tryd.func13, Tryd.ntmps13
  go_wp2_with (go_at_call 19; refine (HT.out).mono ?_; rintro e w' ⟨v, rfl, hv, hb⟩)
  have HV := Lib.hid hv
  have HB := Lib.hid hb
  go_ret
  exact ⟨_, rfl, HV.out.lower (by simp), (below_alloc (Below.refl _ _) _).trans (HB.out.mono (by simp))⟩
end Go.Proofs.YtgdlkpfkaehebaaDoor.Ra
