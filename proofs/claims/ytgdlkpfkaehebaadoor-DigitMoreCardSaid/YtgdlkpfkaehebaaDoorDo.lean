/- The walks of DigitOrder and DigitCounts. -/
import Derived.Test.YtgdlkpfkaehebaaDoorRa
import Derived.Test.YtgdlkpfkaehebaaDoorRd
set_option linter.unusedVariables false
set_option linter.unusedSimpArgs false
namespace Go.Proofs.YtgdlkpfkaehebaaDoor.Do
open Go Go.RowKit Go.Proofs.YtgdlkpfkaehebaaDoorW.PrintWords Go.Proofs.YtgdlkpfkaehebaaDoorW.PrintLast Go.Proofs.YtgdlkpfkaehebaaDoorW.PrintMore
open Nt Lm Bs Pr Ra

theorem wf_u64 {x : Int} (h : (Lit.int .u64 x).wf = true) : ∃ n : Nat, x = (n : Int) ∧ n < 18446744073709551616 := by
  simp [Lit.wf] at h
  have h1 : 0 ≤ x := h.1
  have h2 : x ≤ 18446744073709551615 := h.2
  exact ⟨x.toNat, by omega, by omega⟩
theorem wf_u8 {x : Int} (h : (Lit.int .u8 x).wf = true) : ∃ n : Nat, x = (n : Int) ∧ n < 256 := by
  simp [Lit.wf] at h
  have h1 : 0 ≤ x := h.1
  have h2 : x ≤ 255 := h.2
  exact ⟨x.toNat, by omega, by omega⟩
theorem nats_of : ∀ (l : List Int), (∀ x ∈ l, (Lit.int .u64 x).wf = true) → ∃ ns : List Nat, l = ints ns ∧ Lim ns
  | [], _ => ⟨[], rfl, fun x hx => by simp at hx⟩
  | x :: l, h => by
    obtain ⟨n, rfl, hn⟩ := wf_u64 (h x (by simp))
    obtain ⟨ns, rfl, hl⟩ := nats_of l (fun y hy => h y (by simp [hy]))
    exact ⟨n :: ns, rfl, fun y hy => by
      rcases List.mem_cons.1 hy with rfl | hy
      · exact hn
      · exact hl y hy⟩
/-- an argument that is a row of limbs -/
theorem arg_rw {W : World} {v : Value} {l : List Int} (h : Rd.Reads W (.sl (.int .u64)) [v] l) : ∃ A c ns, v = .slice A ns.length c ∧ ns.length ≤ c ∧ Rw W A ns ∧ Lim ns ∧ ns.length ≤ 9223372036854775807 := by
  obtain ⟨⟨a, cap, rfl, h2, h3, h4⟩, hw⟩ := Rd.row_ints h
  obtain ⟨ns, rfl, hlim⟩ := nats_of l hw
  rw [ints_len] at *
  have h5 : cap ≤ 9223372036854775807 := h3
  refine ⟨a, cap, ns, rfl, h2, ?_, hlim, Nat.le_trans h2 h5⟩
  refine ⟨ints_len ns, by omega, fun hne => ?_⟩
  obtain ⟨b, off, k0, k1, k2⟩ := h4 (fun e => by rw [← ints_len, e] at hne; simp at hne)
  refine ⟨_, k0, fun j p hj => ⟨[.int .u64 p], rfl, rfl, fun i u hu => ?_⟩⟩
  rcases i with _ | i
  · simp at hu
    subst hu
    have := k2 j p hj
    rw [show KU.sz = 1 from rfl, Nat.mul_one, Nat.add_zero]
    have e : (⟨b, off, none⟩ : Addr).add j = ⟨b, off + j, none⟩ := by unfold Addr.add; split <;> simp_all
    rw [e]
    exact this
  · simp at hu

/-! ### the comparison -/
def vt (l : List Nat) (m : Nat) : Nat := unb 18446744073709551616 (l.take m)
theorem vt_zero (l : List Nat) : vt l 0 = 0 := rfl
theorem vt_succ (l : List Nat) (m : Nat) : vt l (m + 1) = vt l m + 18446744073709551616 ^ m * atL l m := by
  unfold vt
  by_cases h : m < l.length
  · rw [take_at h, unb_append, List.length_take, Nat.min_eq_left (by omega)]
    simp [unb]
  · rw [List.take_of_length_le (by omega), List.take_of_length_le (by omega)]
    have e : atL l m = 0 := by unfold atL; rw [List.getD_eq_getElem?_getD, List.getElem?_eq_none (by omega)]; rfl
    rw [e]
    omega
theorem vt_lt {l : List Nat} (h : Lim l) (m : Nat) : vt l m < 18446744073709551616 ^ m := by
  induction m with
  | zero => simp [vt_zero]
  | succ m ih =>
    rw [vt_succ, Nat.pow_succ]
    have h1 := atL_lt_of h m
    have h2 : 18446744073709551616 ^ m * atL l m ≤ 18446744073709551616 ^ m * 18446744073709551615 := Nat.mul_le_mul_left _ (by omega)
    have e : 18446744073709551616 ^ m * 18446744073709551616 = 18446744073709551616 ^ m * 18446744073709551615 + 18446744073709551616 ^ m := by
      rw [← Nat.mul_succ]
    omega
theorem vt_all (l : List Nat) (m : Nat) (h : l.length ≤ m) : vt l m = val l := by unfold vt; rw [List.take_of_length_le h, val_unb]
theorem high_lt {B u v x y : Nat} (hu : u < B) (h : x < y) : u + B * x < v + B * y := by
  have : B * x + B ≤ B * y := by rw [← Nat.mul_succ]; exact Nat.mul_le_mul_left _ h
  omega
theorem cmp_spec {a b : List Nat} (ha : Lim a) (hb : Lim b) : ∀ m, cmpF a b m = if vt a m < vt b m then -1 else if vt b m < vt a m then 1 else 0
  | 0 => by simp [cmpF, vt_zero]
  | m + 1 => by
    rw [cmpF, vt_succ, vt_succ]
    have h1 := vt_lt ha m
    have h2 := vt_lt hb m
    by_cases c1 : atL a m < atL b m
    · rw [if_pos c1, if_pos (high_lt h1 c1)]
    · rw [if_neg c1]
      by_cases c2 : atL b m < atL a m
      · have := high_lt (v := vt a m) h2 c2
        rw [if_pos c2, if_neg (by omega), if_pos this]
      · have e : atL a m = atL b m := by omega
        rw [if_neg c2, cmp_spec ha hb m, e]
        simp only [Nat.add_lt_add_iff_right]
theorem cmp_val {a b : List Nat} (ha : Lim a) (hb : Lim b) : cmpF a b (max a.length b.length) = if val a < val b then -1 else if val b < val a then 1 else 0 := by
  rw [cmp_spec ha hb, vt_all a _ (by omega), vt_all b _ (by omega)]
theorem take_lim {l : List Nat} (h : Lim l) (n : Nat) : Lim (l.take n) := fun x hx => h x (List.mem_of_mem_take hx)
theorem held_may {l : List Nat} (h : Lim l) : May (trimF (l.take 8)) ∧ Lim (trimF (l.take 8)) ∧ (trimF (l.take 8)).length ≤ 8 := by
  have h1 := take_lim h 8
  have h2 : (trimF (l.take 8)).length ≤ 8 := Nat.le_trans (trimF_len _) (by rw [List.length_take]; omega)
  refine ⟨⟨h2, ?_⟩, trimF_lim h1, h2⟩
  rw [← ofN_val h1, trimF_ofN]

theorem bl_eq : ∀ (x y : List UInt8), Op.bytesLess x y = decide (x < y)
  | x, [] => by simp [Op.bytesLess]
  | [], b :: y => by simp [Op.bytesLess]
  | a :: x, b :: y => by
    rw [Op.bytesLess, bl_eq x y]
    simp only [List.cons_lt_cons_iff]
    by_cases h1 : a < b <;> by_cases h2 : a = b <;> by_cases h3 : x < y <;> simp [h1, h2, h3]

set_option maxHeartbeats 2000000 in
set_option maxRecDepth 100000 in
theorem order_walk (v0 : Value) (l0 : List Int) (v1 : Value) (l1 : List Int) (W : World) (hpow : Fu.Pow W) (R0 : Rd.Reads W (.sl (.int .u64)) [v0] l0) (R1 : Rd.Reads W (.sl (.int .u64)) [v1] l1) :
    Calls Tryd.prog 3 #[v0, v1] W fun e W' => e = .returned (.bool true) ∧ Below W.heap.size W W' := by
  obtain ⟨A, c, a, rfl, hc, hr, hla, hl⟩ := arg_rw R0
  obtain ⟨B, d, b, rfl, hd, hr2, hlb, hl2⟩ := arg_rw R1
  obtain ⟨hmx, hlx, h8x⟩ := held_may hla
  obtain ⟨hmy, hly, h8y⟩ := held_may hlb
  have HA := Lib.hid (held_call A c a W hr hc hl)
  have HB := Lib.hid (fun w h => held_call B d b w (hr2.below h) hd hl2)
  obtain ⟨x, hx⟩ : ∃ x, x = trimF (a.take 8) := ⟨_, rfl⟩
  obtain ⟨y, hy⟩ : ∃ y, y = trimF (b.take 8) := ⟨_, rfl⟩
  rw [← hx] at HA hmx hlx h8x
  rw [← hy] at HB hmy hly h8y
  have HPOW := Lib.hid hpow
  have HMX := Lib.hid hmx
  have HMY := Lib.hid hmy
  have HLX := Lib.hid hlx
  have HLY := Lib.hid hly
  clear R0 R1 hr hr2 hl hl2 hla hlb hx hy hpow hmx hmy hlx hly
  go_enter Tryd.func3, Tryd.ntmps3
  go_wp2_with fail
  refine (HA.out).mono ?_
  rintro e w1 ⟨vx, rfl, hvx, hb1⟩
  obtain ⟨A1, c1, rfl, hc1, hr1⟩ := hvx.open
  have HR1 := Lib.hid hr1
  have HB1 := Lib.hid hb1
  clear hvx hr1 hb1
  go_wp2_with fail
  refine (HB.out _ HB1.out).mono ?_
  rintro e w2 ⟨vy, rfl, hvy, hb2⟩
  obtain ⟨A2, c2, rfl, hc2, hr2⟩ := hvy.open
  have HR2 := Lib.hid hr2
  have HR12 := Lib.hid (HR1.out.below hb2)
  have HB2 := Lib.hid (HB1.out.trans (hb2.mono HB1.out.size))
  clear hvy hr2 hb2 HR1 HB1
  go_wp2_with fail
  refine (print_call A1 c1 x w2 HR12.out HMX.out HLX.out hc1 (pow_below HPOW.out HB2.out)).mono ?_
  rintro e w3 ⟨rfl, hb3⟩
  have HR23 := Lib.hid (HR2.out.below hb3)
  have HR13 := Lib.hid (HR12.out.below hb3)
  have HB3 := Lib.hid (HB2.out.trans (hb3.mono HB2.out.size))
  clear hb3 HR2 HR12 HB2
  go_wp2_with fail
  refine (print_call A2 c2 y w3 HR23.out HMY.out HLY.out hc2 (pow_below HPOW.out HB3.out)).mono ?_
  rintro e w4 ⟨rfl, hb4⟩
  have HR24 := Lib.hid (HR23.out.below hb4)
  have HR14 := Lib.hid (HR13.out.below hb4)
  have HB4 := Lib.hid (HB3.out.trans (hb4.mono HB3.out.size))
  clear hb4 HR23 HR13 HB3
  go_wp2_with fail
  refine (cmp_call A1 A2 c1 c2 x y w4 HR14.out HR24.out (by omega) (by omega)).mono ?_
  rintro e w5 ⟨rfl, rfl⟩
  rw [cmp_val HLX.out HLY.out]
  obtain ⟨u, hu⟩ : ∃ u, u = val x := ⟨_, rfl⟩
  obtain ⟨v, hv⟩ : ∃ v, v = val y := ⟨_, rfl⟩
  simp only [← hu, ← hv]
  clear hu hv HR14 HR24
  have HS := Lib.hid (shown_call w4 (pow_below HPOW.out HB4.out))
  obtain ⟨s, hs⟩ : ∃ s, s = ba (text u) := ⟨_, rfl⟩
  obtain ⟨t, ht⟩ : ∃ t, t = ba (text v) := ⟨_, rfl⟩
  have ho := text_order u v
  have ho2 := text_order v u
  simp only [← hs, ← ht]
  have hss : s.toList = text u := by rw [hs, ba_toList]
  have hts : t.toList = text v := by rw [ht, ba_toList]
  have hzs : s.size = s.toList.length := by rw [hs, ba_size, ba_toList]
  have hzt : t.size = t.toList.length := by rw [ht, ba_size, ba_toList]
  have hinj : s.toList = t.toList → u = v := fun e => text_inj (by rw [← hss, ← hts, e])
  rw [← hss, ← hts, ← hzs, ← hzt] at ho ho2
  have heq : u = v → s = t := fun e => by rw [hs, ht, e]
  clear hs ht hss hts hzs hzt
  rcases Nat.lt_trichotomy u v with h | h | h
  · rw [if_pos h]
    have ne : (s.toList == t.toList) = false := by simpa using fun e => absurd (hinj e) (by omega)
    rcases ho.1 h with h1 | ⟨h1, h2⟩
    · have k1 : (s.size : Int) < (t.size : Int) := by omega
      have k2 : ¬ (s.size : Int) = (t.size : Int) := by omega
      clear ho ho2 hinj heq h h1
      go_wp2_with (go_at_call 11; refine (HS.out).mono ?_; rintro e w6 ⟨rfl, hb6⟩)
      go_ret
      exact ⟨by first | rfl | (simp; done) | (simp [bl_eq]; done) | (simp [bl_eq]; assumption), HB4.out.trans (hb6.mono HB4.out.size)⟩
    · have k1 : ¬ (s.size : Int) < (t.size : Int) := by omega
      have k2 : (s.size : Int) = (t.size : Int) := by omega
      clear ho ho2 hinj heq h h1
      go_wp2_with (go_at_call 11; refine (HS.out).mono ?_; rintro e w6 ⟨rfl, hb6⟩)
      go_ret
      exact ⟨by first | rfl | (simp; done) | (simp [bl_eq]; done) | (simp [bl_eq]; assumption), HB4.out.trans (hb6.mono HB4.out.size)⟩
  · obtain rfl := heq h
    have hu : ¬ u < v := by omega
    have hv : ¬ v < u := by omega
    have hno : ¬ s.toList < s.toList := fun e => hu (ho.2 (.inr ⟨rfl, e⟩))
    rw [if_neg hu, if_neg hv]
    clear ho ho2 hinj heq h hu hv
    go_wp2_with (go_at_call 11; refine (HS.out).mono ?_; rintro e w6 ⟨rfl, hb6⟩)
    go_ret
    exact ⟨by first | rfl | (simp; done) | (simp [bl_eq]; done) | (simp [bl_eq]; assumption), HB4.out.trans (hb6.mono HB4.out.size)⟩
  · rw [if_neg (by omega), if_pos h]
    have ne : (s.toList == t.toList) = false := by simpa using fun e => absurd (hinj e) (by omega)
    have k1 : ¬ (s.size : Int) < (t.size : Int) := fun e => absurd (ho.2 (.inl (by omega))) (by omega)
    by_cases k2 : s.size = t.size
    · have k3 : ¬ s.toList < t.toList := fun e => absurd (ho.2 (.inr ⟨k2, e⟩)) (by omega)
      replace k2 : (s.size : Int) = (t.size : Int) := by omega
      clear ho ho2 hinj heq h
      go_wp2_with (go_at_call 11; refine (HS.out).mono ?_; rintro e w6 ⟨rfl, hb6⟩)
      go_ret
      exact ⟨by first | rfl | (simp; done) | (simp [bl_eq]; done) | (simp [bl_eq]; assumption), HB4.out.trans (hb6.mono HB4.out.size)⟩
    · replace k2 : ¬ (s.size : Int) = (t.size : Int) := by omega
      clear ho ho2 hinj heq h
      go_wp2_with (go_at_call 11; refine (HS.out).mono ?_; rintro e w6 ⟨rfl, hb6⟩)
      go_ret
      exact ⟨by first | rfl | (simp; done) | (simp [bl_eq]; done) | (simp [bl_eq]; assumption), HB4.out.trans (hb6.mono HB4.out.size)⟩

theorem digs_at {b x : Nat} (hb : 2 ≤ b) {l : List Nat} {i : Nat} (hd : digs b x = l.drop i) (hi : i < l.length) : 0 < x ∧ atL l i = x % b ∧ digs b (x / b) = l.drop (i + 1) := by
  have hd2 : l.drop i = atL l i :: l.drop (i + 1) := by
    rw [List.drop_eq_getElem_cons hi]
    congr 1
    unfold atL
    rw [List.getD_eq_getElem?_getD, List.getElem?_eq_getElem hi]; rfl
  rw [hd2] at hd
  by_cases h0 : x = 0
  · rw [h0, digs_zero] at hd
    cases hd
  · rw [digs_pos hb (by omega)] at hd
    injection hd with h1 h2
    exact ⟨by omega, h1.symm, h2⟩
theorem digs_end {b x : Nat} (hb : 2 ≤ b) (hd : digs b x = []) : x = 0 := by
  have := unb_digs hb x
  rw [hd] at this
  exact this.symm

set_option maxHeartbeats 2000000 in
set_option maxRecDepth 100000 in
theorem counts_walk (n b : Int) (W : World) (hpow : Fu.Pow W) (hn : (Lit.int .u64 n).wf = true) (hb : (Lit.int .u8 b).wf = true) :
    Calls Tryd.prog 4 #[.int .u64 n, .int .u8 b] W fun e W' => e = .returned (.bool true) ∧ Below W.heap.size W W' := by
  obtain ⟨n, rfl, hn64⟩ := wf_u64 hn
  obtain ⟨b, rfl, hb8⟩ := wf_u8 hb
  have hlim : Lim [n] := fun y hy => by have e : y = n := (by simpa using hy); omega
  have hof : trimF [n] = ofN n := by rw [← ofN_val hlim]; simp [val]
  have hmay : May (ofN n) := ofN_may (Nat.lt_of_lt_of_le hn64 (by decide))
  have HO := Lib.hid (of_call n W)
  rw [hof] at HO
  have hol : (ofN n).length ≤ 8 := hmay.1
  have hbase : ∀ A c w, Rw w A (ofN n) → (ofN n).length ≤ c → Calls Tryd.prog 12 #[.slice A (ofN n).length c, .int .u64 ((b + 2 : Nat) : Int)] w fun e w' => ∃ v, e = .returned v ∧ Nw w' w.heap.size v (digs (b + 2) n) ∧ Below w.heap.size w w' := by
    intro A c w h1 h2
    have := base_call A c (ofN n) (b + 2) w h1 hmay (ofN_lim n) h2 (by omega) (by omega)
    rw [val_ofN] at this
    exact this
  obtain ⟨q, hq⟩ : ∃ q, q = b + 2 := ⟨_, rfl⟩
  have hw1 : IntKind.u64.wrap (b : Int) = (b : Int) := IntWalk.u64_in _ (by omega)
  have hw2 : IntKind.u64.wrap ((b : Int) + 2) = (q : Int) := by rw [show (b : Int) + 2 = (q : Int) by omega]; exact IntWalk.u64_in _ (by omega)
  have hq2 : 2 ≤ q := by omega
  have hq9 : q < 300 := by omega
  rw [← hq] at hbase
  have HBASE := Lib.hid hbase
  have HPOW := Lib.hid hpow
  obtain ⟨on, hon⟩ : ∃ l, l = ofN n := ⟨_, rfl⟩
  simp only [← hon] at HO HBASE hol
  have HQ := Lib.hid hq2
  have hln : (digs q n).length ≤ 1000 := Nat.le_trans ((digs_len hq2 64 n).2 (Nat.lt_of_lt_of_le hn64 (by exact Nat.pow_le_pow_left hq2 64))) (by omega)
  clear hbase hpow hn hb hlim hof hmay hon hq
  obtain ⟨l, hl⟩ : ∃ l, l = digs q n := ⟨_, rfl⟩
  rw [← hl] at HBASE hln
  have HL := Lib.hid hl
  clear hl hq2
  go_enter Tryd.func4, Tryd.ntmps4
  go_wp2_with fail
  refine (HO.out).mono ?_
  rintro e w1 ⟨v, rfl, hv, hb1⟩
  obtain ⟨A1, c1, rfl, hc1, hr1⟩ := hv.open
  have HR1 := Lib.hid hr1
  have HB1 := Lib.hid hb1
  clear hv hr1 hb1
  go_wp2_with fail
  refine (HBASE.out A1 c1 w1 HR1.out hc1).mono ?_
  rintro e w2 ⟨v, rfl, hv, hb2⟩
  obtain ⟨A2, c2, rfl, hc2, hr2⟩ := hv.open
  have HR2 := Lib.hid hr2
  have HB2 := Lib.hid (HB1.out.trans (hb2.mono HB1.out.size))
  clear hv hr2 hb2
  go_wp2
  go_loopw [7, 8] (fun v u wr => ∃ (i x : Nat), i ≤ l.length ∧ u = .int .i64 (i : Int) ∧ v = .int .u64 (x : Int) ∧ x < 18446744073709551616 ∧ Hid (digs q x = l.drop i) ∧ Hid (Below w2.heap.size w2 wr)) (fun _ u _ => l.length - (intOf u).toNat)
  case atStart => exact ⟨0, n, by omega, rfl, rfl, hn64, Lib.hid (by rw [List.drop_zero, HL.out]), Lib.hid (Below.refl _ _)⟩
  case round =>
    obtain ⟨i, x, hi, rfl, rfl, hx64, hd, hB⟩ := hrel
    by_cases hil : i < l.length
    · obtain ⟨hx0, hat, hnx⟩ := digs_at HQ.out hd.out hil
      obtain ⟨ad, e, hx⟩ := HR2.out.at i hil
      cases e
      replace hx := (hB.out.cell (World.block_lt_of_cell? w2 _ hx)).trans hx
      rw [hat] at hx
      have hq0 : ((q : Int) == 0) = false := beq_eq_false_iff_ne.mpr (by have := HQ.out; omega)
      have hqn : ¬ (q : Int) = 0 := by have := HQ.out; omega
      have hxm : x % q < 18446744073709551616 := Nat.lt_of_le_of_lt (Nat.mod_le _ _) hx64
      have hxd : x / q < 18446744073709551616 := Nat.lt_of_le_of_lt (Nat.div_le_self _ _) hx64
      have hm1 : (x : Int).tmod (q : Int) = ((x % q : Nat) : Int) := by rw [Int.tmod_eq_emod_of_nonneg (by omega)]; rfl
      have hm2 : (x : Int).tdiv (q : Int) = ((x / q : Nat) : Int) := by rw [Int.tdiv_eq_ediv_of_nonneg (by omega)]; rfl
      obtain ⟨y, hy⟩ : ∃ y, y = x % q := ⟨_, rfl⟩
      obtain ⟨z, hz⟩ : ∃ y, y = x / q := ⟨_, rfl⟩
      rw [← hy] at hm1 hxm hx
      rw [← hz] at hm2 hxd hnx
      have hm3 : IntKind.u64.wrap (y : Int) = (y : Int) := IntWalk.u64_in _ (by omega)
      have hm4 : IntKind.u64.wrap (z : Int) = (z : Int) := IntWalk.u64_in _ (by omega)
      have hx0b : ((x : Int) == 0) = false := beq_eq_false_iff_ne.mpr (by omega)
      have hil' : (i : Int) < (l.length : Int) := by omega
      have HNX := Lib.hid hnx
      clear hat hnx hd
      go_wp2_with fail
      go_quiet (fail)
      go_wp2_with fail
      go_roundw
      case rel => exact ⟨i + 1, z, by omega, by go_num, by rw [hz]; simp, hxd, HNX, Lib.hid (pw_below_drewN hB.out _)⟩
      case measure => simp [intOf]; omega
    · have hil' : ¬ (i : Int) < (l.length : Int) := by omega
      have e := hd.out
      rw [List.drop_eq_nil_of_le (by omega)] at e
      obtain rfl := digs_end HQ.out e
      have HBR := Lib.hid (HB2.out.trans (hB.out.mono HB2.out.size))
      have HS := Lib.hid (shown_call wr (pow_below HPOW.out HBR.out))
      clear e hd
      go_wp2_with (go_at_call 11; refine (HS.out).mono ?_; rintro e w6 ⟨rfl, hb6⟩)
      go_ret
      exact ⟨rfl, HBR.out.trans (hb6.mono HBR.out.size)⟩
end Go.Proofs.YtgdlkpfkaehebaaDoor.Do
