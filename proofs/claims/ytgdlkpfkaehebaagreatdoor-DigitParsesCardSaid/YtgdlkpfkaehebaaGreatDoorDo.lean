/- The walks of DigitOrder and DigitCounts. -/
import Derived.Test.YtgdlkpfkaehebaaGreatDoorRa
import Derived.Test.YtgdlkpfkaehebaaGreatDoorRd
set_option linter.unusedVariables false
set_option linter.unusedSimpArgs false
namespace Go.Proofs.YtgdlkpfkaehebaaGreatDoor.Do
open Go Go.RowKit Go.Proofs.YtgdlkpfkaehebaaGreatDoorW.PrintWords Go.Proofs.YtgdlkpfkaehebaaGreatDoorW.PrintLast Go.Proofs.YtgdlkpfkaehebaaGreatDoorW.PrintMore
open Nt Lm Bs Pr Ra

theorem wf_u64 {x : Int} (h : (Lit.int .u64 x).wf = true) : ∃ n : Nat, x = (n : Int) ∧ n < 18446744073709551616 := by
  simp [Lit.wf] at h
  have h1 : 0 ≤ x := h.1
  have h2 : x ≤ 18446744073709551615 := h.2
  exact ⟨x.toNat, by omega, by omega⟩
theorem wf_u8 {x : Int} (h : (Lit.int .u8 x).wf = true) : ∃ n : Nat, x = (n : Int) ∧ n < 256 := by
  simp [Lit.wf] at h
  have h1 : 0 ≤ x := h.1
  have h2 : x ≤ 255 := h.2
  exact ⟨x.toNat, by omega, by omega⟩
theorem nats_of : ∀ (l : List Int), (∀ x ∈ l, (Lit.int .u64 x).wf = true) → ∃ ns : List Nat, l = ints ns ∧ Lim ns
  | [], _ => ⟨[], rfl, fun x hx => by simp at hx⟩
  | x :: l, h => by
    obtain ⟨n, rfl, hn⟩ := wf_u64 (h x (by simp))
    obtain ⟨ns, rfl, hl⟩ := nats_of l (fun y hy => h y (by simp [hy]))
    exact ⟨n :: ns, rfl, fun y hy => by
      rcases List.mem_cons.1 hy with rfl | hy
      · exact hn
      · exact hl y hy⟩
/-- an argument that is a row of limbs -/
theorem arg_rw {W : World} {v : Value} {l : List Int} (h : Rd.Reads W (.sl (.int .u64)) [v] l) : ∃ A c ns, v = .slice A ns.length c ∧ ns.length ≤ c ∧ Rw W A ns ∧ Lim ns ∧ ns.length ≤ 9223372036854775807 := by
  obtain ⟨⟨a, cap, rfl, h2, h3, h4⟩, hw⟩ := Rd.row_ints h
  obtain ⟨ns, rfl, hlim⟩ := nats_of l hw
  rw [ints_len] at *
  have h5 : cap ≤ 9223372036854775807 := h3
  refine ⟨a, cap, ns, rfl, h2, ?_, hlim, Nat.le_trans h2 h5⟩
  refine ⟨ints_len ns, by omega, fun hne => ?_⟩
  obtain ⟨b, off, k0, k1, k2⟩ := h4 (fun e => by rw [← ints_len, e] at hne; simp at hne)
  refine ⟨_, k0, fun j p hj => ⟨[.int .u64 p], rfl, rfl, fun i u hu => ?_⟩⟩
  rcases i with _ | i
  · simp at hu
    subst hu
    have := k2 j p hj
    rw [show KU.sz = 1 from rfl, Nat.mul_one, Nat.add_zero]
    have e : (⟨b, off, none⟩ : Addr).add j = ⟨b, off + j, none⟩ := by unfold Addr.add; split <;> simp_all
    rw [e]
    exact this
  · simp at hu

/-! ### the comparison -/
def vt (l : List Nat) (m : Nat) : Nat := unb 18446744073709551616 (l.take m)
theorem vt_zero (l : List Nat) : vt l 0 = 0 := rfl
theorem vt_succ (l : List Nat) (m : Nat) : vt l (m + 1) = vt l m + 18446744073709551616 ^ m * atL l m := by
  unfold vt
  by_cases h : m < l.length
  · rw [take_at h, unb_append, List.length_take, Nat.min_eq_left (by omega)]
    simp [unb]
  · rw [List.take_of_length_le (by omega), List.take_of_length_le (by omega)]
    have e : atL l m = 0 := by unfold atL; rw [List.getD_eq_getElem?_getD, List.getElem?_eq_none (by omega)]; rfl
    rw [e]
    omega
theorem vt_lt {l : List Nat} (h : Lim l) (m : Nat) : vt l m < 18446744073709551616 ^ m := by
  induction m with
  | zero => simp [vt_zero]
  | succ m ih =>
    rw [vt_succ, Nat.pow_succ]
    have h1 := atL_lt_of h m
    have h2 : 18446744073709551616 ^ m * atL l m ≤ 18446744073709551616 ^ m * 18446744073709551615 := Nat.mul_le_mul_left _ (by omega)
    have e : 18446744073709551616 ^ m * 18446744073709551616 = 18446744073709551616 ^ m * 18446744073709551615 + 18446744073709551616 ^ m := by
      rw [← Nat.mul_succ]
    omega
theorem vt_all (l : List Nat) (m : Nat) (h : l.length ≤ m) : vt l m = val l := by unfold vt; rw [List.take_of_length_le h, val_unb]
theorem high_lt {B u v x y : Nat} (hu : u < B) (h : x < y) : u + B * x < v + B * y := by
  have : B * x + B ≤ B * y := by rw [← Nat.mul_succ]; exact Nat.mul_le_mul_left _ h
  omega
theorem cmp_spec {a b : List Nat} (ha : Lim a) (hb : Lim b) : ∀ m, cmpF a b m = if vt a m < vt b m then -1 else if vt b m < vt a m then 1 else 0
  | 0 => by simp [cmpF, vt_zero]
  | m + 1 => by
    rw [cmpF, vt_succ, vt_succ]
    have h1 := vt_lt ha m
    have h2 := vt_lt hb m
    by_cases c1 : atL a m < atL b m
    · rw [if_pos c1, if_pos (high_lt h1 c1)]
    · rw [if_neg c1]
      by_cases c2 : atL b m < atL a m
      · have := high_lt (v := vt a m) h2 c2
        rw [if_pos c2, if_neg (by omega), if_pos this]
      · have e : atL a m = atL b m := by omega
        rw [if_neg c2, cmp_spec ha hb m, e]
        simp only [Nat.add_lt_add_iff_right]
theorem cmp_val {a b : List Nat} (ha : Lim a) (hb : Lim b) : cmpF a b (max a.length b.length) = if val a < val b then -1 else if val b < val a then 1 else 0 := by
  rw [cmp_spec ha hb, vt_all a _ (by omega), vt_all b _ (by omega)]
theorem take_lim {l : List Nat} (h : Lim l) (n : Nat) : Lim (l.take n) := fun x hx => h x (List.mem_of_mem_take hx)
theorem held_may {l : List Nat} (h : Lim l) : May (trimF (l.take 8)) ∧ Lim (trimF (l.take 8)) ∧ (trimF (l.take 8)).length ≤ 8 := by
  have h1 := take_lim h 8
  have h2 : (trimF (l.take 8)).length ≤ 8 := Nat.le_trans (trimF_len _) (by rw [List.length_take]; omega)
  refine ⟨⟨h2, ?_⟩, trimF_lim h1, h2⟩
  rw [← ofN_val h1, trimF_ofN]

theorem bl_eq : ∀ (x y : List UInt8), Op.bytesLess x y = decide (x < y)
  | x, [] => by simp [Op.bytesLess]
  | [], b :: y => by simp [Op.bytesLess]
  | a :: x, b :: y => by
    rw [Op.bytesLess, bl_eq x y]
    simp only [List.cons_lt_cons_iff]
    by_cases h1 : a < b <;> by_cases h2 : a = b <;> by_cases h3 : x < y <;> simp [h1, h2, h3]

theorem digs_at {b x : Nat} (hb : 2 ≤ b) {l : List Nat} {i : Nat} (hd : digs b x = l.drop i) (hi : i < l.length) : 0 < x ∧ atL l i = x % b ∧ digs b (x / b) = l.drop (i + 1) := by
  have hd2 : l.drop i = atL l i :: l.drop (i + 1) := by
    rw [List.drop_eq_getElem_cons hi]
    congr 1
    unfold atL
    rw [List.getD_eq_getElem?_getD, List.getElem?_eq_getElem hi]; rfl
  rw [hd2] at hd
  by_cases h0 : x = 0
  · rw [h0, digs_zero] at hd
    cases hd
  · rw [digs_pos hb (by omega)] at hd
    injection hd with h1 h2
    exact ⟨by omega, h1.symm, h2⟩
theorem digs_end {b x : Nat} (hb : 2 ≤ b) (hd : digs b x = []) : x = 0 := by
  have := unb_digs hb x
  rw [hd] at this
  exact this.symm

end Go.Proofs.YtgdlkpfkaehebaaGreatDoor.Do
