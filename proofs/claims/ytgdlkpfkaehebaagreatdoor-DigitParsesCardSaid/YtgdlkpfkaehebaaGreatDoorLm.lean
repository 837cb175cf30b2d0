/- limb.trim, limb.Trim and nat.May: rows of limbs as lists of naturals. -/
import Derived.Test.YtgdlkpfkaehebaaGreatDoorCl
import Derived.Test.YtgdlkpfkaehebaaGreatDoorNa
import Derived.Lib.Hide
set_option linter.unusedVariables false
namespace Go.Proofs.YtgdlkpfkaehebaaGreatDoor.Lm
open Go Go.RowKit Go.Proofs.YtgdlkpfkaehebaaGreatDoorW.PrintWords Go.Proofs.YtgdlkpfkaehebaaGreatDoorW.PrintLast Go.Proofs.YtgdlkpfkaehebaaGreatDoorW.PrintMore
open Nt

abbrev KU : Kd Int := Kd.int .u64
def ints (l : List Nat) : List Int := l.map fun n : Nat => (n : Int)
theorem ints_len (l : List Nat) : (ints l).length = l.length := by simp [ints]
theorem ints_app (l m : List Nat) : ints (l ++ m) = ints l ++ ints m := by simp [ints]
theorem ints_take (l : List Nat) (n : Nat) : (ints l).take n = ints (l.take n) := by simp [ints]
theorem ints_drop (l : List Nat) (n : Nat) : (ints l).drop n = ints (l.drop n) := by simp [ints]
theorem ints_set (l : List Nat) (n v : Nat) : (ints l).set n (v : Int) = ints (l.set n v) := by simp [ints, List.map_set]
theorem ints_rep (n v : Nat) : List.replicate n (v : Int) = ints (List.replicate n v) := by simp [ints]
theorem rd_ints (l : List Nat) (i : Nat) : rd (ints l) (i : Int) = (atL l i : Int) := by
  unfold rd ints atL
  simp only [Int.toNat_natCast, List.getD_eq_getElem?_getD, List.getElem?_map]
  cases l[i]? <;> simp
/-- a row of limbs is read -/
def Rw (w : World) (A : Option Addr) (l : List Nat) : Prop := KU.C w A l.length (ints l)
theorem Rw.at {w : World} {A : Option Addr} {l : List Nat} (h : Rw w A l) (i : Nat) (hi : i < l.length) : ∃ ad, A = some ad ∧ w.cell? (ad.add i) = some (.int .u64 (atL l i : Nat)) := by
  obtain ⟨ad, e, hc⟩ := Kd.at_int h (i : Int) (Int.natCast_nonneg _) (by exact_mod_cast hi)
  rw [rd_ints, Int.toNat_natCast] at hc
  exact ⟨ad, e, hc⟩
theorem Rw.below {w w' : World} {A : Option Addr} {l : List Nat} (h : Rw w A l) (hb : Below w.heap.size w w') : Rw w' A l := Kd.C_below h hb
theorem Rw.take {w : World} {A : Option Addr} {l : List Nat} (h : Rw w A l) {m : Nat} (hm : m ≤ l.length) : Rw w A (l.take m) := by
  have h' : KU.C w A (ints l).length (ints l) := by rw [ints_len]; exact h
  have := Kd.C_take h' (m := m) (by rw [ints_len]; exact hm)
  rw [ints_take, ints_len] at this
  exact this
theorem Rw.nil (w : World) : Rw w none [] := Kd.C_nil KU w
def slen : Value → Nat
  | .slice _ n _ => n
  | _ => 0
theorem atL_lt_of {l : List Nat} (h : Lim l) (i : Nat) : atL l i < 18446744073709551616 := atL_lt (by decide) h i
theorem take_at {l : List Nat} {k : Nat} (h : k < l.length) : l.take (k + 1) = l.take k ++ [atL l k] := by
  unfold atL
  rw [List.take_succ_eq_append_getElem h, List.getD_eq_getElem?_getD, List.getElem?_eq_getElem h, Option.getD_some]
theorem trim_take (l : List Nat) : l.take (trimF l).length = trimF l := by
  induction l with
  | nil => rfl
  | cons x l ih =>
    simp only [trimF]
    split
    · rfl
    · simp only [List.length_cons, List.take_succ_cons, ih]

set_option maxHeartbeats 2000000 in
set_option maxRecDepth 100000 in
theorem trim_call (A : Option Addr) (c : Nat) (l : List Nat) (w : World) (hr : Rw w A l) (hc : l.length ≤ c) (hl : l.length ≤ 1000000) :
    Calls Tryz.prog 56 #[.slice A l.length c] w fun e w' => e = .returned (.slice A (trimF l).length c) ∧ w = w' := by
  obtain ⟨i0, hi0, _, _, _⟩ := info_parts Cl.infoU
  have HI := Lib.hid hi0
  clear hi0
  have HR := Lib.hid hr
  clear hr
  go_enter Tryz.func56, Tryz.ntmps56
  go_wp2
  go_loop [0] (fun v => ∃ n : Nat, n ≤ l.length ∧ v = .slice A n c ∧ Hid (trimF (l.take n) = trimF l)) (fun v => slen v)
  case atStart => exact ⟨l.length, Nat.le_refl _, rfl, Lib.hid (by rw [List.take_length])⟩
  case round =>
    obtain ⟨n, hn, rfl, ht⟩ := hrel
    by_cases h0 : n = 0
    · subst h0
      go_wp2
      go_ret
      have e := ht.out
      simp only [List.take_zero, trimF] at e
      rw [← e]
      exact ⟨rfl, rfl⟩
    · obtain ⟨k, rfl⟩ : ∃ k, n = k + 1 := ⟨n - 1, by omega⟩
      obtain ⟨ad, e, hx⟩ := HR.out.at k (by omega)
      cases e
      have hcut := cut_to (P := Tryz.prog) 23 31 .i64 Tryz.underlying23 HI.out (some ad) (k + 1) c (k : Int) (by omega) (by omega) (by omega)
      rw [Int.toNat_natCast] at hcut
      have hj : IntKind.i64.wrap (((k + 1 : Nat) : Int) - 1) = (k : Int) := by rw [show (((k + 1 : Nat) : Int) - 1) = (k : Int) by omega]; exact IntWalk.i64_in _ (by omega)
      by_cases hz : atL l k = 0
      · rw [hz] at hx
        go_wp2
        go_round
        case rel => exact ⟨k, by omega, rfl, Lib.hid (by rw [← ht.out, take_at (by omega), hz, trimF_zero])⟩
        case measure => simp [slen]
      · have hz1 : ((atL l k : Nat) : Int) ≠ 0 := by omega
        have hzb : (((atL l k : Nat) : Int) == 0) = false := by simpa using hz
        go_wp2
        go_ret
        have e := ht.out
        rw [take_at (by omega), trimF_last _ hz, ← take_at (by omega)] at e
        have e2 : (trimF l).length = k + 1 := by rw [← e, List.length_take]; omega
        rw [e2]
        exact ⟨rfl, rfl⟩

/-- a row of limbs in memory of the call's own -/
def Nw (w : World) (lo : Nat) (v : Value) (l : List Nat) : Prop := KU.R 31 w lo (fun _ => True) v (ints l)
theorem Nw.below {w w' : World} {lo : Nat} {v : Value} {l : List Nat} (h : Nw w lo v l) (hb : Below w.heap.size w w') : Nw w' lo v l := Kd.R_below h hb
theorem Nw.lower {w : World} {lo lo' : Nat} {v : Value} {l : List Nat} (h : Nw w lo v l) (hb : lo' ≤ lo) : Nw w lo' v l := Kd.R_lower h hb
theorem Nw.nil (w : World) (lo : Nat) : Nw w lo (.slice none 0 0) [] := Kd.R_nil _ _ _ _ _
theorem Nw.open {w : World} {lo : Nat} {v : Value} {l : List Nat} (h : Nw w lo v l) : ∃ A c, v = .slice A l.length c ∧ l.length ≤ c ∧ Rw w A l := by
  obtain ⟨A, c, rfl⟩ := Kd.R_slice h
  have h2 := Kd.R_reads' h
  rw [ints_len] at h2 ⊢
  exact ⟨A, c, rfl, h2.2.1, h2.2.2⟩
theorem Nw.trim {w : World} {lo : Nat} {A : Option Addr} {n c : Nat} {l : List Nat} (h : Nw w lo (.slice A n c) l) : Nw w lo (.slice A (trimF l).length c) (trimF l) := by
  have := Kd.R_take h (m := (trimF l).length) (by rw [ints_len]; exact trimF_len l)
  rw [ints_take, trim_take] at this
  exact this

theorem Nw.form {w : World} {lo : Nat} {v : Value} {l : List Nat} (h : Nw w lo v l) (hl : 0 < l.length) : ∃ g cap, v = .slice (some ⟨g, 0, none⟩) l.length cap ∧ lo ≤ g ∧ g < w.heap.size := by
  obtain ⟨inner, ho⟩ := Kd.R_own h
  rw [ints_len] at ho
  rcases ho.2 with ⟨rfl, h0⟩ | ⟨g, cap, cur, rfl, hb, hh, hnc, _⟩
  · omega
  · exact ⟨g, cap, rfl, hb, (Array.getElem?_eq_some_iff.1 hh).1⟩
theorem Nw.cell {w : World} {lo g n cap : Nat} {l : List Nat} (h : Nw w lo (.slice (some ⟨g, 0, none⟩) n cap) l) (i : Nat) (hi : i < n) :
    w.cell? ⟨g, i, none⟩ = some (.int .u64 (atL l i : Nat)) ∧ w.frozen? ⟨g, i, none⟩ = false := by
  have := Kd.R_celln (0 : Int) h (i : Int) (Int.natCast_nonneg _) (by exact_mod_cast hi)
  rw [Int.toNat_natCast] at this
  have e : rdOf (0 : Int) (ints l) (i : Int) = (atL l i : Int) := by rw [← rd_ints]; rfl
  rw [e] at this
  exact this
theorem Nw.put {w : World} {lo g n cap : Nat} {l : List Nat} (h : Nw w lo (.slice (some ⟨g, 0, none⟩) n cap) l) (i x : Nat) :
    Nw (w.setCell ⟨g, i, none⟩ (.int .u64 (x : Int))) lo (.slice (some ⟨g, 0, none⟩) n cap) (l.set i x) ∧ w.grownBy (w.setCell ⟨g, i, none⟩ (.int .u64 (x : Int))) (some g) := by
  have := Kd.R_putg h (i : Int) (x : Int)
  rw [Int.toNat_natCast, ints_set] at this
  exact this
theorem Rw.one (W : World) (x : Nat) : Rw (W.alloc (.cells #[.int .u64 (x : Int)] 31)) (some ⟨W.heap.size, 0, none⟩) [x] := by
  refine ⟨rfl, by simp, fun _ => ⟨_, rfl, fun j p hj => ?_⟩⟩
  rcases j with _ | j
  · simp [ints] at hj
    subst hj
    refine ⟨[.int .u64 (x : Int)], rfl, rfl, fun i u hu => ?_⟩
    rcases i with _ | i
    · simp at hu
      subst hu
      show (W.alloc _).cell? ((⟨W.heap.size, 0, none⟩ : Addr).add 0) = _
      rw [add_plain, World.cell?_alloc_at _ _ _ _ rfl]
      rfl
    · simp at hu
  · simp [ints] at hj
/-- a row that is appended to a row of the call's own -/
theorem app_n {ops : Array Oper} {rest : List Oper} {o : Oper} {a : Act} {Q : Exit → Act → World → Prop} {w0 W : World} (lo : Nat) (hgd : o.guard = none) (s x : Operand)
    (ho : o.op = .call { callee := .builtin .append, args := #[s, x], argTypes := #[23, 23] }) (v : Value) (l m : List Nat) (A : Option Addr) (c : Nat) (hs : a.eval s = v) (hx : a.eval x = .slice A m.length c)
    (HO : Nw W lo v l) (HR : Rw W A m) (HB : Below lo w0 W) (hbase : lo ≤ W.heap.size) (hl : l.length + m.length ≤ 1000000)
    (h : ∀ v1 w1, Nw w1 lo v1 (l ++ m) → Below lo w0 w1 → W.grownBy w1 v.ownBlock → (v1.ownBlock = v.ownBlock ∨ ∃ b, v1.ownBlock = some b ∧ W.heap.size ≤ b) → wpList Tryz.prog ops Q rest (a.put o.dst v1) w1) :
    wpList Tryz.prog ops Q (o :: rest) a W := by
  refine Kd.R_append_rows KU (w0 := w0) lo hgd s x 23 31 (.int .u64 0) 8 ho Tryz.underlying23 Cl.infoU rfl (by decide) (by omega) v (ints l) (ints m) A m.length c (fun _ => True) (fun _ => False) hs hx HO HR (fun _ _ h => h) (fun _ h => h.elim) (fun _ _ => trivial) HB hbase (by rw [ints_len]; omega) ?_
  intro v1 w1 h1 h2 h3 h4
  rw [← ints_app] at h1
  exact h v1 w1 h1 h2 h3 h4
/-- a row that is made -/
theorem make_n {ops : Array Oper} {rest : List Oper} {o : Oper} {a : Act} {Q : Exit → Act → World → Prop} {w0 W : World} (lo : Nat) (hgd : o.guard = none) {N : Tmp} (hd : o.dst = some N) (x y : Operand) (ho : o.op = .makeSlice 23 x y) (n : Nat)
    (hx : a.eval x = .int .i64 (n : Int)) (hy : a.eval y = .int .i64 (n : Int)) (hn : n ≤ 1000000) (HB : Below lo w0 W) (hbase : lo ≤ W.heap.size)
    (h : ∀ v1 w1, Nw w1 lo v1 (List.replicate n 0) → Below lo w0 w1 → W.grownBy w1 none → (∃ b, v1.ownBlock = some b ∧ W.heap.size ≤ b) → wpList Tryz.prog ops Q rest (a.put o.dst v1) w1) : wpList Tryz.prog ops Q (o :: rest) a W := by
  refine Kd.R_make KU (w0 := w0) lo 31 hgd hd 23 x y ho (n : Int) hx hy Tryz.underlying23 (.int .u64 0) 8 Cl.infoU rfl (by decide) (by decide) (0 : Int) (ok := fun _ => True) (okp := fun _ => True) ?hz (fun _ h => h) trivial (Int.natCast_nonneg _) (by rw [Int.toNat_natCast]; omega) HB hbase ?_
  case hz => rfl
  intro v1 w1 h1 h2 h3 h4
  rw [Int.toNat_natCast] at h1
  have e := ints_rep n 0
  rw [Int.natCast_zero] at e
  rw [e] at h1
  exact h v1 w1 h1 h2 h3 h4

theorem clone_n (A : Option Addr) (c : Nat) (l : List Nat) (w : World) (hr : Rw w A l) (hl : l.length ≤ 1000000) :
    Calls Tryz.prog 79 #[.slice A l.length c] w fun e w' => ∃ v, e = .returned v ∧ Nw w' w.heap.size v l ∧ Below w.heap.size w w' := by
  have h := Cl.clone_call A c (ints l) w (by rw [ints_len]; exact hr) (by rw [ints_len]; exact hl)
  rw [ints_len] at h
  exact h

set_option maxHeartbeats 2000000 in
set_option maxRecDepth 100000 in
theorem Trim_call (A : Option Addr) (c : Nat) (l : List Nat) (w : World) (hr : Rw w A l) (hc : l.length ≤ c) (hl : l.length ≤ 1000000) :
    Calls Tryz.prog 57 #[.slice A l.length c] w fun e w' => ∃ v, e = .returned v ∧ Nw w' w.heap.size v (trimF l) ∧ Below w.heap.size w w' := by
  have HT := Lib.hid (trim_call A c l w hr hc hl)
  have h1 := trimF_len l
  have hr2 := hr.take h1
  rw [trim_take] at hr2
  have HC := Lib.hid (clone_n A c (trimF l) w hr2 (by omega))
  clear hr hr2 h1
  go_enter Tryz.func57, Tryz.ntmps57
  go_wp2_with (first
    | (go_at_call 56; refine (HT.out).mono ?_; rintro e w' ⟨rfl, rfl⟩)
    | (go_at_call 79; refine (HC.out).mono ?_; rintro e w' ⟨v, rfl, hv, hb⟩))
  go_ret
  exact ⟨_, rfl, hv, hb⟩

/-- a row that may be a natural -/
theorem may_eq (l : List Nat) : May l ↔ l.length ≤ 8 ∧ (l = [] ∨ atL l (l.length - 1) ≠ 0) := by
  unfold May
  rw [trimF_eq_iff]
  refine and_congr Iff.rfl ?_
  rcases List.eq_nil_or_concat l with rfl | ⟨l', x, rfl⟩
  · simp
  · simp [atL, List.getD_eq_getElem?_getD]
instance (l : List Nat) : Decidable (May l) := inferInstanceAs (Decidable (_ ∧ _))
def mayB (l : List Nat) : Bool := decide (May l)
set_option maxHeartbeats 2000000 in
set_option maxRecDepth 100000 in
theorem may_call (A : Option Addr) (c : Nat) (l : List Nat) (w : World) (hr : Rw w A l) (hl : l.length ≤ 1000000) :
    Calls Tryz.prog 14 #[.slice A l.length c] w fun e w' => e = .returned (.bool (mayB l)) ∧ w = w' := by
  have hm := may_eq l
  have HR := Lib.hid hr
  clear hr
  by_cases h8 : l.length ≤ 8
  · by_cases h0 : l.length = 0
    · obtain rfl : l = [] := List.eq_nil_of_length_eq_zero h0
      have e : mayB [] = true := rfl
      rw [e]
      clear hm
      go_enter Tryz.func14, Tryz.ntmps14
      go_wp2
      go_ret
      exact ⟨rfl, rfl⟩
    · obtain ⟨k, hk⟩ : ∃ k, l.length = k + 1 := ⟨l.length - 1, by omega⟩
      obtain ⟨ad, e, hx⟩ := HR.out.at k (by omega)
      cases e
      have e : mayB l = decide (atL l k ≠ 0) := by
        unfold mayB
        refine decide_eq_decide.2 ?_
        rw [hm, hk, Nat.add_sub_cancel]
        constructor
        · rintro ⟨_, rfl | h⟩
          · simp at hk
          · exact h
        · intro h; exact ⟨by omega, .inr h⟩
      have hk7 : k ≤ 7 := by omega
      rw [e, hk]
      clear e hm
      by_cases hz : atL l k = 0
      · rw [hz] at hx ⊢
        clear hk hz
        go_enter Tryz.func14, Tryz.ntmps14
        go_wp2
        go_ret
        exact ⟨rfl, rfl⟩
      · have hzb : (((atL l k : Nat) : Int) == 0) = false := by simpa using hz
        have hzc : (((atL l k : Nat) : Int) != 0) = true := by simpa using hz
        have e : decide (atL l k ≠ 0) = true := by simpa using hz
        rw [e]
        clear e
        generalize atL l k = x at *
        clear hk hz
        go_enter Tryz.func14, Tryz.ntmps14
        go_wp2
        go_ret
        exact ⟨rfl, rfl⟩
  · have e : mayB l = false := by
      unfold mayB
      exact decide_eq_false (fun h => h8 h.1)
    rw [e]
    clear hm e
    go_enter Tryz.func14, Tryz.ntmps14
    go_wp2
    go_ret
    exact ⟨rfl, rfl⟩
end Go.Proofs.YtgdlkpfkaehebaaGreatDoor.Lm
