/- math/bits.Div64. -/
import Derived.Test.YtgdlkpfkaehebaaGreatDoorDstrs
import Derived.Test.YtgdlkpfkaehebaaGreatDoorProg
import Derived.WalkKit
import Derived.BigQuiet
import Derived.RegionTactic
import Derived.Test.YtgdlkpfkaehebaaGreatDoorNk
import Derived.Test.YtgdlkpfkaehebaaGreatDoorNs
import Derived.Lib.Hide
import Derived.Deep.CutBlock
import Derived.Deep.QuietTactic
namespace Go.Proofs.YtgdlkpfkaehebaaGreatDoor.Dv
open Go Go.RowKit

set_option linter.unusedVariables false in
theorem lz_call (x : Int) (w : World) (h0 : 0 ≤ x) (h1 : x ≤ 18446744073709551615) :
    Calls Tryz.prog 82 #[.int .u64 x] w fun e w' => e = .returned (.int .i64 (64 - (Lib.bitLen x.toNat : Int))) ∧ w' = w :=
  Any.bits_LeadingZeros64 lays134 x w h0 h1

theorem low32 (n : Nat) (h : n < 18446744073709551616) : bits .and .u64 (n : Int) 4294967295 = ((n % 4294967296 : Nat) : Int) := by
  have := (bits_nat .u64 64 (by decide) Ns.wraps_u64 n 4294967295 (by simpa using h) (by decide)).1
  rw [show ((4294967295 : Nat) : Int) = 4294967295 from rfl] at this
  rw [this]
  congr 1
  exact Nat.and_two_pow_sub_one_eq_mod n 32
theorem wu (n : Nat) (h : n < 18446744073709551616) : IntKind.u64.wrap (n : Int) = (n : Int) := Ns.wraps_u64 _ (Int.natCast_nonneg _) (by exact_mod_cast h)
theorem wmod (a b : Nat) : IntKind.u64.wrap ((a : Int) * (b : Int)) = ((a * b % 18446744073709551616 : Nat) : Int) := by
  simp only [IntKind.wrap]
  have : (a : Int) * (b : Int) = ((a * b : Nat) : Int) := by simp
  rw [this]
  simp [IntKind.bits, IntKind.signed]

set_option maxHeartbeats 2000000 in
set_option maxRecDepth 100000 in
theorem div64_zero (lo y : Nat) (hy : y < 18446744073709551616) (hh : 0 < y) (hl : lo < 18446744073709551616) (w : World) :
    Calls Tryz.prog 64 #[.int .u64 ((0 : Nat) : Int), .int .u64 (lo : Int), .int .u64 (y : Int)] w fun e w' => e = .returned (.tuple #[.int .u64 ((lo / y : Nat) : Int), .int .u64 ((lo % y : Nat) : Int)]) ∧ Below w.heap.size w w' := by
  have y0 : ((y : Int) == 0) = false := by simp; omega
  have y1 : decide ((y : Int) ≤ 0) = false := by simp; omega
  have hq : lo / y < 18446744073709551616 := Nat.lt_of_le_of_lt (Nat.div_le_self _ _) hl
  have e1 : IntKind.u64.wrap ((lo : Int) / (y : Int)) = ((lo / y : Nat) : Int) := by rw [← Int.natCast_ediv, wu _ hq]
  clear hq
  go_enter Tryz.func64, Tryz.ntmps64
  go_wp2_with fail
  go_region
  go_wp2_with fail
  go_ret2
  exact ⟨rfl, (Below.refl _ _).drew⟩

/-- what is left behind the first digit -/
theorem rest_eq (U Y v q : Nat) (hY : 0 < Y) (hq : q = (U * 4294967296 + v) / Y) (hY64 : Y ≤ 18446744073709551616) :
    IntKind.u64.wrap (((U : Int) * 4294967296 + (v : Int)) - (q : Int) * (Y : Int)) = (((U * 4294967296 + v) % Y : Nat) : Int) := by
  have h := Nat.div_add_mod (U * 4294967296 + v) Y
  have hl := Nat.mod_lt (U * 4294967296 + v) hY
  rw [← hq] at h
  generalize (U * 4294967296 + v) % Y = r at *
  have e : ((U : Int) * 4294967296 + (v : Int)) - (q : Int) * (Y : Int) = (r : Int) := by
    have h2 : ((Y * q + r : Nat) : Int) = ((U * 4294967296 + v : Nat) : Int) := by rw [h]
    simp only [Int.natCast_add, Int.natCast_mul] at h2
    rw [Int.mul_comm (q : Int)]
    have h3 : ((4294967296 : Nat) : Int) = 4294967296 := rfl
    omega
  rw [e, wu _ (by omega)]
/-- sums that wrap on the way -/
theorem wrap_in (a b : Int) : IntKind.u64.wrap (IntKind.u64.wrap a - IntKind.u64.wrap b) = IntKind.u64.wrap (a - b) := by
  simp [IntKind.wrap, IntKind.bits, IntKind.signed]
theorem wrap_add_in (a b c : Int) : IntKind.u64.wrap (IntKind.u64.wrap a + b - c) = IntKind.u64.wrap (a + b - c) := by
  simp [IntKind.wrap, IntKind.bits, IntKind.signed]
  omega
theorem wadd (a b : Nat) : IntKind.u64.wrap ((a : Int) + (b : Int)) = (((a + b) % 18446744073709551616 : Nat) : Int) := by
  simp [IntKind.wrap, IntKind.bits, IntKind.signed]
theorem wrap_add (a b : Int) : IntKind.u64.wrap (IntKind.u64.wrap a + b) = IntKind.u64.wrap (a + b) := by
  simp [IntKind.wrap, IntKind.bits, IntKind.signed]

/-- moved up, the number is two limbs, the higher one less than what it is divided by -/
theorem shiftedAll (hi lo y k : Nat) (hl : lo < 18446744073709551616) (hh : hi < y) :
    (hi * 18446744073709551616 + lo) * 2 ^ k / 18446744073709551616 * 18446744073709551616 + lo * 2 ^ k % 18446744073709551616 = (hi * 18446744073709551616 + lo) * 2 ^ k
    ∧ (hi * 18446744073709551616 + lo) * 2 ^ k / 18446744073709551616 < y * 2 ^ k := by
  have e : (hi * 18446744073709551616 + lo) * 2 ^ k = lo * 2 ^ k + 18446744073709551616 * (hi * 2 ^ k) := by
    rw [Nat.add_mul, Nat.mul_comm hi, Nat.mul_assoc]; omega
  have h1 : (hi * 18446744073709551616 + lo) * 2 ^ k % 18446744073709551616 = lo * 2 ^ k % 18446744073709551616 := by rw [e, Nat.add_mul_mod_self_left]
  refine ⟨by rw [← h1]; exact Nat.div_add_mod' _ _, ?_⟩
  refine (Nat.div_lt_iff_lt_mul (by decide)).2 ?_
  rw [Nat.mul_right_comm]
  refine Nat.mul_lt_mul_of_pos_right ?_ (Nat.pow_pos (by decide))
  omega

set_option maxHeartbeats 4000000 in
set_option maxRecDepth 100000 in
theorem div64_pos (hi lo y : Nat) (hy : y < 18446744073709551616) (hh : hi < y) (h0 : 0 < hi) (hl : lo < 18446744073709551616) (w : World) :
    Calls Tryz.prog 64 #[.int .u64 (hi : Int), .int .u64 (lo : Int), .int .u64 (y : Int)] w fun e w' => e = .returned (.tuple #[.int .u64 (((hi * 18446744073709551616 + lo) / y : Nat) : Int), .int .u64 (((hi * 18446744073709551616 + lo) % y : Nat) : Int)]) ∧ Below w.heap.size w w' := by
  obtain ⟨FQ, hFQ⟩ : ∃ x, x = (hi * 18446744073709551616 + lo) / y := ⟨_, rfl⟩
  obtain ⟨FR, hFR⟩ : ∃ x, x = (hi * 18446744073709551616 + lo) % y := ⟨_, rfl⟩
  rw [← hFQ, ← hFR]
  have HFQ := Lib.hid hFQ
  have HFR := Lib.hid hFR
  clear hFQ hFR
  have y0 : ((y : Int) == 0) = false := by simp; omega
  have y1 : decide ((y : Int) ≤ (hi : Int)) = false := by simp; omega
  have h0b : ((hi : Int) == 0) = false := by simp; omega
  obtain ⟨k, hk, hks, hY63, hY64⟩ := Ns.moved y (by omega) hy
  have LZ := fun w => lz_call (y : Int) w (by omega) (by omega)
  simp only [Int.toNat_natCast, hks] at LZ
  have hhk : hi * 2 ^ k < 18446744073709551616 := Nat.lt_of_le_of_lt (Nat.mul_le_mul_right _ (Nat.le_of_lt hh)) hY64
  have eU := Ns.high hi lo k hk hl hhk
  have eY : IntKind.u64.wrap ((y : Int) * 2 ^ k) = ((y * 2 ^ k : Nat) : Int) := by
    have e : ((y : Int) * 2 ^ k) = ((y * 2 ^ k : Nat) : Int) := by simp
    rw [e, Ns.wraps_u64 _ (Int.natCast_nonneg _) (by exact_mod_cast hY64)]
  have eL : IntKind.u64.wrap ((lo : Int) * 2 ^ k) = ((lo * 2 ^ k % 18446744073709551616 : Nat) : Int) := by
    have := wmod lo (2 ^ k)
    simpa using this
  have eT : (64 - (k : Int)).toNat = 64 - k := by omega
  -- the numbers that are divided
  have hfin := shiftedAll hi lo y k hl hh
  generalize hY : y * 2 ^ k = Y at *
  have hYk := hY
  generalize hU : (hi * 18446744073709551616 + lo) * 2 ^ k / 18446744073709551616 = U at *
  generalize hL : lo * 2 ^ k % 18446744073709551616 = L at *
  obtain ⟨hsum, hUY⟩ := hfin
  have hL64 : L < 18446744073709551616 := by rw [← hL]; exact Nat.mod_lt _ (by decide)
  clear hL hU hhk h0
  obtain ⟨y1, hy1⟩ : ∃ x, x = Y / 4294967296 := ⟨_, rfl⟩
  obtain ⟨y0', hy0⟩ : ∃ x, x = Y % 4294967296 := ⟨_, rfl⟩
  obtain ⟨u1, hu1⟩ : ∃ x, x = L / 4294967296 := ⟨_, rfl⟩
  obtain ⟨u0, hu0⟩ : ∃ x, x = L % 4294967296 := ⟨_, rfl⟩
  have b1 : 2147483648 ≤ y1 := by omega
  have b1' : y1 < 4294967296 := by omega
  have b0 : y0' < 4294967296 := by omega
  have bu1 : u1 < 4294967296 := by omega
  have bu0 : u0 < 4294967296 := by omega
  have hYe : Y = y1 * 4294967296 + y0' := by omega
  have hLe : L = u1 * 4294967296 + u0 := by omega
  have eY0 : bits .and .u64 (Y : Int) 4294967295 = (y0' : Int) := by rw [low32 Y hY64, hy0]
  have eL0 : bits .and .u64 (L : Int) 4294967295 = (u0 : Int) := by rw [low32 L hL64, hu0]
  have eY1 : (Y : Int) / 4294967296 = (y1 : Int) := by omega
  have eL1 : (L : Int) / 4294967296 = (u1 : Int) := by omega
  have eq0 : IntKind.u64.wrap ((U : Int) / (y1 : Int)) = ((U / y1 : Nat) : Int) := by rw [← Int.natCast_ediv, wu _ (Nat.lt_of_le_of_lt (Nat.div_le_self _ _) (by omega))]
  obtain ⟨q0, hq0⟩ : ∃ x, x = U / y1 := ⟨_, rfl⟩
  have I1 := Lib.hid (Nk.start y1 y0' U u1 b1 b1' b0 (by omega) bu1)
  rw [← hq0] at eq0 I1
  have hqm : q0 * y1 ≤ U := by rw [hq0]; exact Nat.div_mul_le_self _ _
  have er0 : IntKind.u64.wrap ((U : Int) - IntKind.u64.wrap ((q0 : Int) * (y1 : Int))) = ((U - q0 * y1 : Nat) : Int) := by
    have e : ((q0 : Int) * (y1 : Int)) = ((q0 * y1 : Nat) : Int) := by simp
    rw [e, wu _ (by omega)]
    rw [← Int.ofNat_sub hqm, wu _ (by omega)]
  obtain ⟨r0, hr0⟩ : ∃ x, x = U - q0 * y1 := ⟨_, rfl⟩
  rw [← hr0] at er0 I1
  have HYe := Lib.hid hYe
  have HLe := Lib.hid hLe
  obtain ⟨Q1, hQ1⟩ : ∃ x, x = (U * 4294967296 + u1) / Y := ⟨_, rfl⟩
  have HQ1 := Lib.hid hQ1
  have HS := Lib.hid hsum
  have hUY' : U < y1 * 4294967296 + y0' := by omega
  have hq0t := I1.out.top
  clear hqm hr0 hq0 hy1 hy0 hu1 hu0 hYe hLe hQ1 hsum
  have LZ' := Lib.hid LZ
  clear LZ
  go_enter Tryz.func64, Tryz.ntmps64
  go_upto_block 0 with (go_at_call 82; refine (LZ'.out _).mono ?_; rintro e' w' ⟨rfl, hb⟩)
  go_cut [15, 16] from 67 to 85 (fun s15 _ wc => s15 = .int .u64 (Q1 : Int) ∧ wc = w)
  case first =>
    go_wp2_with fail
    go_loop [15, 16] (fun a b => ∃ q r : Nat, a = .int .u64 (q : Int) ∧ b = .int .u64 (r : Int) ∧ Hid (Nk.Inv y1 y0' U u1 q r)) (fun _ b => 4294967296 - (intOf b).toNat)
    case atStart => exact ⟨q0, r0, rfl, rfl, I1⟩
    case round =>
      clear eq0 er0 eY eU eL eT eY0 eL0 eY1 eL1
      obtain ⟨q, r, rfl, rfl, hi1⟩ := hrel
      have ht := hi1.out.top
      have hlow := hi1.out.low
      have hm64 : q * y0' < 18446744073709551616 := by
        have := Nat.mul_le_mul ht (Nat.le_of_lt_succ b0)
        omega
      obtain ⟨m, hm⟩ : ∃ m, m = q * y0' := ⟨_, rfl⟩
      rw [← hm] at hm64
      have em : IntKind.u64.wrap ((q : Int) * (y0' : Int)) = (m : Int) := by
        have e : ((q : Int) * (y0' : Int)) = ((q * y0' : Nat) : Int) := by simp
        rw [e, ← hm, wu _ hm64]
      have HM := Lib.hid hm
      clear hm
      have hstep := fun ho hl => Nk.step y1 y0' U u1 q r b1 hUY' bu1 hi1.out ho hl
      have hbrk := fun ho hl => Nk.brk y1 y0' U u1 q r b1 b0 hUY' bu1 hi1.out ho hl
      have hstop := fun ho => Nk.stop y1 y0' U u1 q r b1 hi1.out ho
      rw [← HYe.out, ← HQ1.out] at hbrk hstop
      rw [← HM.out] at hstep hbrk hstop
      have HSTEP := Lib.hid hstep
      have HBRK := Lib.hid hbrk
      have HSTOP := Lib.hid hstop
      clear hstep hbrk hstop
      by_cases hq : 4294967296 ≤ q
      · have hqb : decide ((4294967296 : Int) ≤ (q : Int)) = true := decide_eq_true (by omega)
        by_cases hl : r + y1 < 4294967296
        · have hlb : decide ((4294967296 : Int) ≤ (r : Int) + (y1 : Int)) = false := decide_eq_false (by omega)
          obtain ⟨c1, c2⟩ := HSTEP.out (.inl hq) hl
          have C2 := Lib.hid c2
          clear c2
          go_wp2_with fail
          go_round
          case rel => exact ⟨q - 1, r + y1, by rw [Int.ofNat_sub c1]; rfl, by go_num, C2⟩
          case measure => simp [intOf]; omega
        · have hlb : decide ((4294967296 : Int) ≤ (r : Int) + (y1 : Int)) = true := decide_eq_true (by omega)
          obtain ⟨c1, c2⟩ := HBRK.out (.inl hq) (by omega)
          have C2 := Lib.hid c2
          clear c2
          go_wp2_with fail
          go_meet
          exact ⟨by rw [← C2.out, Int.ofNat_sub c1]; rfl, rfl⟩
      · have hqb : decide ((4294967296 : Int) ≤ (q : Int)) = false := decide_eq_false (by omega)
        by_cases hm : 4294967296 * r + u1 < m
        · have hmb : decide ((4294967296 : Int) * (r : Int) + (u1 : Int) < (m : Int)) = true := decide_eq_true (by omega)
          by_cases hl : r + y1 < 4294967296
          · have hlb : decide ((4294967296 : Int) ≤ (r : Int) + (y1 : Int)) = false := decide_eq_false (by omega)
            obtain ⟨c1, c2⟩ := HSTEP.out (.inr hm) hl
            have C2 := Lib.hid c2
            clear c2
            go_wp2_with fail
            go_round
            case rel => exact ⟨q - 1, r + y1, by rw [Int.ofNat_sub c1]; rfl, by go_num, C2⟩
            case measure => simp [intOf]; omega
          · have hlb : decide ((4294967296 : Int) ≤ (r : Int) + (y1 : Int)) = true := decide_eq_true (by omega)
            obtain ⟨c1, c2⟩ := HBRK.out (.inr hm) (by omega)
            have C2 := Lib.hid c2
            clear c2
            go_wp2_with fail
            go_meet
            exact ⟨by rw [← C2.out, Int.ofNat_sub c1]; rfl, rfl⟩
        · have hmb : decide ((4294967296 : Int) * (r : Int) + (u1 : Int) < (m : Int)) = false := decide_eq_false (by omega)
          have c2 := HSTOP.out (by omega)
          subst c2
          go_wp2_with fail
          go_meet
          exact ⟨rfl, rfl⟩
  case rest =>
    obtain ⟨rfl, rfl⟩ := hcut
    clear eq0 er0 eY eU eL eY0 eL0 eY1 eL1 I1 LZ' hq0t h0b hks hY hh hY63
    have hY0 : 0 < Y := by omega
    obtain ⟨U1, hU1⟩ : ∃ x, x = (U * 4294967296 + u1) % Y := ⟨_, rfl⟩
    have hU1Y : U1 < Y := by rw [hU1]; exact Nat.mod_lt _ hY0
    have hU1Y' : U1 < y1 * 4294967296 + y0' := by have := HYe.out; omega
    obtain ⟨M, hM⟩ : ∃ x, x = U * 4294967296 % 18446744073709551616 := ⟨_, rfl⟩
    obtain ⟨A, hA⟩ : ∃ x, x = (M + u1) % 18446744073709551616 := ⟨_, rfl⟩
    obtain ⟨R, hR⟩ : ∃ x, x = Q1 * Y % 18446744073709551616 := ⟨_, rfl⟩
    have eM : IntKind.u64.wrap ((U : Int) * 4294967296) = (M : Int) := by rw [hM]; exact wmod U 4294967296
    have eA : IntKind.u64.wrap ((M : Int) + (u1 : Int)) = (A : Int) := by rw [hA]; exact wadd M u1
    have eR : IntKind.u64.wrap ((Q1 : Int) * (Y : Int)) = (R : Int) := by rw [hR]; exact wmod Q1 Y
    have eU1 : IntKind.u64.wrap ((A : Int) - (R : Int)) = (U1 : Int) := by
      rw [← eA, ← eR, wrap_in, ← eM, wrap_add_in, hU1]
      exact rest_eq U Y u1 Q1 hY0 HQ1.out (by omega)
    have HU1 := Lib.hid hU1
    clear hM hA hR hU1
    have eq2 : IntKind.u64.wrap ((U1 : Int) / (y1 : Int)) = ((U1 / y1 : Nat) : Int) := by rw [← Int.natCast_ediv, wu _ (Nat.lt_of_le_of_lt (Nat.div_le_self _ _) (by omega))]
    obtain ⟨q2, hq2⟩ : ∃ x, x = U1 / y1 := ⟨_, rfl⟩
    have I2 := Lib.hid (Nk.start y1 y0' U1 u0 b1 b1' b0 hU1Y' bu0)
    rw [← hq2] at eq2 I2
    have hqm : q2 * y1 ≤ U1 := by rw [hq2]; exact Nat.div_mul_le_self _ _
    have er2 : IntKind.u64.wrap ((U1 : Int) - IntKind.u64.wrap ((q2 : Int) * (y1 : Int))) = ((U1 - q2 * y1 : Nat) : Int) := by
      have e : ((q2 : Int) * (y1 : Int)) = ((q2 * y1 : Nat) : Int) := by simp
      rw [e, wu _ (by omega)]
      rw [← Int.ofNat_sub hqm, wu _ (by omega)]
    obtain ⟨r2, hr2⟩ : ∃ x, x = U1 - q2 * y1 := ⟨_, rfl⟩
    rw [← hr2] at er2 I2
    clear hqm hr2 hq2
    obtain ⟨Q2, hQ2⟩ : ∃ x, x = (U1 * 4294967296 + u0) / Y := ⟨_, rfl⟩
    have HQ2 := Lib.hid hQ2
    have h2 := Nk.two Y U u1 u0 hY0
    rw [← HU1.out, ← HQ1.out, ← hQ2] at h2
    have hX : (U * 4294967296 + u1) * 4294967296 + u0 = (hi * 18446744073709551616 + lo) * 2 ^ k := by
      rw [← HS.out, HLe.out]; omega
    have hs := Nk.shifted (hi * 18446744073709551616 + lo) y k
    rw [hYk] at hs
    rw [hX, hs.1, hs.2] at h2
    clear hs
    have hquo : (hi * 18446744073709551616 + lo) / y < 18446744073709551616 := by
      refine (Nat.div_lt_iff_lt_mul (by omega)).2 ?_
      omega
    have HFIN := Lib.hid h2
    clear hX hQ2
    have eFin1 : IntKind.u64.wrap (IntKind.u64.wrap ((Q1 : Int) * 4294967296) + (Q2 : Int)) = (FQ : Int) := by
      rw [HFQ.out, wrap_add, ← HFIN.out.1]
      have e : (Q1 : Int) * 4294967296 + (Q2 : Int) = ((Q1 * 4294967296 + Q2 : Nat) : Int) := by simp
      rw [e, wu _ (by rw [HFIN.out.1]; exact hquo)]
    have eFin2 : IntKind.u64.wrap (IntKind.u64.wrap (IntKind.u64.wrap ((U1 : Int) * 4294967296) + (u0 : Int)) - IntKind.u64.wrap ((Q2 : Int) * (Y : Int))) / 2 ^ k = (FR : Int) := by
      rw [HFR.out, wrap_in, wrap_add_in, rest_eq U1 Y u0 Q2 hY0 HQ2.out (by omega), HFIN.out.2]
      have : (((hi * 18446744073709551616 + lo) % y * 2 ^ k : Nat) : Int) / 2 ^ k = (((hi * 18446744073709551616 + lo) % y * 2 ^ k / 2 ^ k : Nat) : Int) := by simp
      rw [this, Nat.mul_div_cancel _ (Nat.pow_pos (by decide))]
    clear h2 hquo hYk
    have hq2t := I2.out.top
    go_upto_block 2 with fail
    clear eM eA eR eU1
    go_cut [18, 16] from 102 to 120 (fun s18 _ wc2 => s18 = .int .u64 (Q2 : Int) ∧ wc2 = wc)
    case first =>
      go_wp2_with fail
      go_loop [16, 18] (fun b a => ∃ q r : Nat, a = .int .u64 (q : Int) ∧ b = .int .u64 (r : Int) ∧ Hid (Nk.Inv y1 y0' U1 u0 q r)) (fun b _ => 4294967296 - (intOf b).toNat)
      case atStart => exact ⟨q2, r2, rfl, rfl, I2⟩
      case round =>
        clear eq2 er2 eT eFin1 eFin2
        obtain ⟨q, r, rfl, rfl, hi1⟩ := hrel
        have ht := hi1.out.top
        have hlow := hi1.out.low
        have hm64 : q * y0' < 18446744073709551616 := by
          have := Nat.mul_le_mul ht (Nat.le_of_lt_succ b0)
          omega
        obtain ⟨m, hm⟩ : ∃ m, m = q * y0' := ⟨_, rfl⟩
        rw [← hm] at hm64
        have em : IntKind.u64.wrap ((q : Int) * (y0' : Int)) = (m : Int) := by
          have e : ((q : Int) * (y0' : Int)) = ((q * y0' : Nat) : Int) := by simp
          rw [e, ← hm, wu _ hm64]
        have HM := Lib.hid hm
        clear hm
        have hstep := fun ho hl => Nk.step y1 y0' U1 u0 q r b1 hU1Y' bu0 hi1.out ho hl
        have hbrk := fun ho hl => Nk.brk y1 y0' U1 u0 q r b1 b0 hU1Y' bu0 hi1.out ho hl
        have hstop := fun ho => Nk.stop y1 y0' U1 u0 q r b1 hi1.out ho
        rw [← HYe.out, ← HQ2.out] at hbrk hstop
        rw [← HM.out] at hstep hbrk hstop
        have HSTEP := Lib.hid hstep
        have HBRK := Lib.hid hbrk
        have HSTOP := Lib.hid hstop
        clear hstep hbrk hstop
        by_cases hq : 4294967296 ≤ q
        · have hqb : decide ((4294967296 : Int) ≤ (q : Int)) = true := decide_eq_true (by omega)
          by_cases hl : r + y1 < 4294967296
          · have hlb : decide ((4294967296 : Int) ≤ (r : Int) + (y1 : Int)) = false := decide_eq_false (by omega)
            obtain ⟨c1, c2⟩ := HSTEP.out (.inl hq) hl
            have C2 := Lib.hid c2
            clear c2
            go_wp2_with fail
            go_round
            case rel => exact ⟨q - 1, r + y1, by rw [Int.ofNat_sub c1]; rfl, by go_num, C2⟩
            case measure => simp [intOf]; omega
          · have hlb : decide ((4294967296 : Int) ≤ (r : Int) + (y1 : Int)) = true := decide_eq_true (by omega)
            obtain ⟨c1, c2⟩ := HBRK.out (.inl hq) (by omega)
            have C2 := Lib.hid c2
            clear c2
            go_wp2_with fail
            go_meet
            exact ⟨by rw [← C2.out, Int.ofNat_sub c1]; rfl, rfl⟩
        · have hqb : decide ((4294967296 : Int) ≤ (q : Int)) = false := decide_eq_false (by omega)
          by_cases hm : 4294967296 * r + u0 < m
          · have hmb : decide ((4294967296 : Int) * (r : Int) + (u0 : Int) < (m : Int)) = true := decide_eq_true (by omega)
            by_cases hl : r + y1 < 4294967296
            · have hlb : decide ((4294967296 : Int) ≤ (r : Int) + (y1 : Int)) = false := decide_eq_false (by omega)
              obtain ⟨c1, c2⟩ := HSTEP.out (.inr hm) hl
              have C2 := Lib.hid c2
              clear c2
              go_wp2_with fail
              go_round
              case rel => exact ⟨q - 1, r + y1, by rw [Int.ofNat_sub c1]; rfl, by go_num, C2⟩
              case measure => simp [intOf]; omega
            · have hlb : decide ((4294967296 : Int) ≤ (r : Int) + (y1 : Int)) = true := decide_eq_true (by omega)
              obtain ⟨c1, c2⟩ := HBRK.out (.inr hm) (by omega)
              have C2 := Lib.hid c2
              clear c2
              go_wp2_with fail
              go_meet
              exact ⟨by rw [← C2.out, Int.ofNat_sub c1]; rfl, rfl⟩
          · have hmb : decide ((4294967296 : Int) * (r : Int) + (u0 : Int) < (m : Int)) = false := decide_eq_false (by omega)
            have c2 := HSTOP.out (by omega)
            subst c2
            go_wp2_with fail
            go_meet
            exact ⟨rfl, rfl⟩
    case rest =>
      obtain ⟨rfl, rfl⟩ := hcut
      clear eq2 er2
      go_wp2_with fail
      go_ret2
      exact ⟨rfl, Below.refl _ _⟩

theorem div64_call (hi lo y : Nat) (hy : y < 18446744073709551616) (hh : hi < y) (hl : lo < 18446744073709551616) (w : World) :
    Calls Tryz.prog 64 #[.int .u64 (hi : Int), .int .u64 (lo : Int), .int .u64 (y : Int)] w fun e w' => e = .returned (.tuple #[.int .u64 (((hi * 18446744073709551616 + lo) / y : Nat) : Int), .int .u64 (((hi * 18446744073709551616 + lo) % y : Nat) : Int)]) ∧ Below w.heap.size w w' := by
  by_cases h0 : hi = 0
  · subst h0
    have h := div64_zero lo y hy hh hl w
    rw [Nat.zero_mul, Nat.zero_add]
    exact h
  · exact div64_pos hi lo y hy hh (by omega) hl w
end Go.Proofs.YtgdlkpfkaehebaaGreatDoor.Dv
