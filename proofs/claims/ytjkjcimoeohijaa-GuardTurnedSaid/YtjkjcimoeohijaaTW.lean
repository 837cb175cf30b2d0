/- The call of the law GuardTurned is proved: it answers true, whatever the frame, the place and the mask. -/
import Derived.Test.YtjkjcimoeohijaaAllI
import Derived.Test.YtjkjcimoeohijaaTurn
import Derived.Laws.IdiomStrings
import Derived.Lib.ConvBytes
import Derived.RegionTactic
import Derived.OpenShut
namespace Go.Proofs.Ytjkjcimoeohijaa
open Go.RowKit Go Fr
theorem nil_text : (ba []).toList = [] := by simp [ByteArray.toList_eq]

theorem shown_any (w : World) : Calls Try.prog 10 #[] w fun e w' => e = .returned (.bool true) ∧ Below w.heap.size w w' :=
  PAll.syzygylaw07_shown.calls true w Pure.shown_true
theorem put_any (q e : Nat) (t : ByteArray) (w : World) (hq : q < 18446744073709551616) (he : e < 18446744073709551616) (ht : t.size ≤ 8192) :
    Calls Try.prog 12 #[.agg #[.int .u64 q, .int .u64 e, .string t]] w fun e' w' => e' = .returned (.tuple #[.string (ba (putL q e t.data.toList)), .int .i64 0]) ∧ Below w.heap.size w w' :=
  PAll.guard_Put.calls q e t _ _ w (Pure.put_some q e t hq he ht)

/-- block b holds a text's bytes, which may be written -/
def RowAt (w : World) (b : Nat) (l : List UInt8) : Prop := ∃ (pad : Array Value) (fr : Nat × Nat), w.heap[b]? = some (.cells (byteCells l ++ pad) 5 fr) ∧ l.length ≤ fr.1

theorem RowAt.cell {w : World} {b : Nat} {l : List UInt8} (h : RowAt w b l) (i : Nat) (hi : i < l.length) : w.cell? ⟨b, i, none⟩ = some (.int .u8 ((l.getD i 0).toNat : Int)) ∧ w.frozen? ⟨b, i, none⟩ = false := by
  obtain ⟨pad, fr, h1, h2⟩ := h
  constructor
  · have : (byteCells l ++ pad)[i]? = some (.int .u8 ((l.getD i 0).toNat : Int)) := by
      rw [Array.getElem?_append_left (by rw [byteCells_size]; exact hi), byteCells_at l i hi, List.getD_eq_getElem?_getD, List.getElem?_eq_getElem hi]; rfl
    simp [World.cell?, h1, this]
  · simp [World.frozen?, h1]; omega

theorem RowAt.set {w : World} {b : Nat} {l : List UInt8} (h : RowAt w b l) (i : Nat) (hi : i < l.length) (c : UInt8) : RowAt (w.setCell ⟨b, i, none⟩ (.int .u8 (c.toNat : Int))) b (l.set i c) := by
  obtain ⟨pad, fr, h1, h2⟩ := h
  refine ⟨pad, fr, ?_, by rw [List.length_set]; exact h2⟩
  simp only [World.setCell, Array.getElem?_modify, if_true, h1, Option.map_some]
  rw [Array.setIfInBounds_append_left (by rw [byteCells_size]; exact hi), byteCells_set]
  simp

theorem RowAt.kept {w w' : World} {b : Nat} {l : List UInt8} (h : RowAt w b l) (hb : w'.heap[b]? = w.heap[b]?) : RowAt w' b l := by
  obtain ⟨pad, fr, h1, h2⟩ := h
  exact ⟨pad, fr, hb.trans h1, h2⟩

theorem conv_row (s : ByteArray) (w : World) : ∃ cap w2, Sem.run Try.prog (convert 9 23 (.string s)) w = .ok (.slice (some ⟨w.heap.size, 0, none⟩) s.size cap) w2 ∧ Below w.heap.size w w2 ∧ w2.heap.size = w.heap.size + 1 ∧ RowAt w2 w.heap.size s.data.toList := by
  refine ⟨_, _, Lib.run_convert_string_bytes w 9 23 5 s (u := .string) (by kernel_rfl) (by kernel_rfl) (by kernel_rfl), ⟨rfl, rfl, rfl, ?_, fun k hk => Lib.bytesWorld_at_old w 5 s k hk⟩, Lib.bytesWorld_size w 5 s, ?_⟩
  · rw [Lib.bytesWorld_size]; omega
  · refine ⟨Array.replicate (grownCap w s.size 0 5 - s.size) (.int .u8 0), ((Lib.bytesCells w 5 s).size, (Lib.bytesCells w 5 s).size + 1), ?_, ?_⟩
    · rw [Lib.bytesWorld_at_new]
      congr 2
      unfold Lib.bytesCells byteCells
      congr 1
      apply Array.ext'
      simp
    · simp [Lib.bytesCells]

theorem conv_text (l : List UInt8) (b cap : Nat) (w : World) (h : RowAt w b l) : (convert 23 9 (.slice (some ⟨b, 0, none⟩) l.length cap)).run Try.prog w = .ok (.string (ba l)) w := by
  refine run_convert_bytes_back _ 23 9 5 ⟨b, 0, none⟩ cap l (by kernel_rfl) (by kernel_rfl) (by kernel_rfl) (fun j hj => ?_)
  rw [show (⟨b, 0, none⟩ : Addr).add j = ⟨b, j, none⟩ from by unfold Addr.add; split <;> simp_all]
  rw [(h.cell j hj).1, List.getD_eq_getElem?_getD, List.getElem?_eq_getElem hj]; rfl

theorem quo_walk (k j : Nat) (h : k + j < 1000000) : IntKind.i64.wrap (((k : Int) + j).tdiv 8) = (((k + j) / 8 : Nat) : Int) := by
  rw [Int.tdiv_eq_ediv_of_nonneg (by omega), IntWalk.i64_in _ (by omega)]; omega
theorem shl_walk (k j : Nat) (w : World) : Sem.run Try.prog (Op.shift BinOp.shl IntKind.u8 1 IntKind.i64 (((k : Int) + j).tmod 8)) w = .ok (.int .u8 ((2 ^ ((k + j) % 8) : Nat) : Int)) w := by
  have e : ((k : Int) + j).tmod 8 = (((k + j) % 8 : Nat) : Int) := by rw [Int.tmod_eq_emod_of_nonneg (by omega)]; omega
  have hr : (k + j) % 8 < 8 := by omega
  rw [e]
  generalize (k + j) % 8 = r at *
  rw [shift_shl_u8 _ _ _ (by omega) (by omega)]
  have h2 : (2 : Nat) ^ r < 256 := Nat.pow_lt_pow_of_lt (a := 2) (m := 8) (by omega) hr
  have : IntKind.u8.wrap (1 * 2 ^ (r : Int).toNat) = ((2 ^ r : Nat) : Int) := by
    rw [Int.toNat_natCast, Int.one_mul, show ((2 : Int) ^ r) = ((2 ^ r : Nat) : Int) from by simp]
    generalize (2 : Nat) ^ r = z at *
    exact IntWalk.u8_in _ (by omega)
  rw [this]; rfl
theorem bit_walk (m j : Nat) (hm : m < 4294967296) : (bits BinOp.and IntKind.u32 ((m : Int) / 2 ^ j) 1 == 1) = m.testBit j := by
  have e : (m : Int) / 2 ^ j = ((m / 2 ^ j : Nat) : Int) := by simp
  have hl : m / 2 ^ j < 4294967296 := Nat.lt_of_le_of_lt (Nat.div_le_self _ _) hm
  have h := u32_and_nat (m / 2 ^ j) 1 hl (by omega)
  rw [nat_mask1] at h
  rw [e]
  have h' : bits BinOp.and IntKind.u32 ((m / 2 ^ j : Nat) : Int) 1 = ((m / 2 ^ j % 2 : Nat) : Int) := h
  rw [h', Nat.testBit_eq_decide_div_mod_eq]
  rcases Nat.mod_two_eq_zero_or_one (m / 2 ^ j) with h0 | h0 <;> rw [h0] <;> rfl

theorem acc_moves {B P0 : List UInt8} {k0 A : Nat} (hv : Crc.val B = Crc.val P0 ^^^ 2 ^ k0 * A) (h0 : A ≠ 0) : B ≠ P0 := by
  rintro rfl
  have h1 : 2 ^ k0 * A = 0 := by
    have := congrArg (fun z => Crc.val B ^^^ z) hv
    simpa [← Nat.xor_assoc] using this.symm
  rcases Nat.mul_eq_zero.1 h1 with h | h
  · exact absurd h (Nat.pos_iff_ne_zero.1 (Nat.two_pow_pos k0))
  · exact h0 h

/-- one bit is turned: what the loop keeps -/
theorem round_step {wr w2 : World} {B P0 : List UInt8} {k0 j A l8 h8 kq : Nat} (h : RowAt wr w2.heap.size B) (hb : Below w2.heap.size w2 wr) (hl : B.length = P0.length) (ht : B.take l8 = P0.take l8) (hd : B.drop h8 = P0.drop h8) (hv : Crc.val B = Crc.val P0 ^^^ 2 ^ k0 * A)
    (hq : (k0 + j) / 8 = kq) (h1 : l8 ≤ kq) (h2 : kq < h8) (h3 : kq < B.length) :
    RowAt ((wr.setCell { block := w2.heap.size, off := kq } (.int .u8 (bits .xor .u8 (((B[kq]?.getD 0).toNat : Nat) : Int) (2 ^ ((k0 + j) % 8) % 256)))).drew) w2.heap.size (Fr.flip B (k0 + j)) ∧
    Below w2.heap.size w2 ((wr.setCell { block := w2.heap.size, off := kq } (.int .u8 (bits .xor .u8 (((B[kq]?.getD 0).toNat : Nat) : Int) (2 ^ ((k0 + j) % 8) % 256)))).drew) ∧
    (Fr.flip B (k0 + j)).length = P0.length ∧ (Fr.flip B (k0 + j)).take l8 = P0.take l8 ∧ (Fr.flip B (k0 + j)).drop h8 = P0.drop h8 ∧ Crc.val (Fr.flip B (k0 + j)) = Crc.val P0 ^^^ 2 ^ k0 * (A ^^^ 2 ^ j) := by
  subst hq
  refine ⟨?_, (hb.setCell (Nat.le_refl _) _).drew, by rw [flip_length, hl], by rw [flip_take _ _ _ h1, ht], by rw [flip_drop _ _ _ h2, hd], ?_⟩
  · have hp : (2 : Nat) ^ ((k0 + j) % 8) < 256 := Nat.pow_lt_pow_of_lt (a := 2) (m := 8) (by omega) (by omega)
    have e : ((2 : Int) ^ ((k0 + j) % 8) % 256) = ((2 ^ ((k0 + j) % 8) : Nat) : Int) := by
      rw [show ((2 : Int) ^ ((k0 + j) % 8)) = ((2 ^ ((k0 + j) % 8) : Nat) : Int) from by simp]
      generalize (2 : Nat) ^ ((k0 + j) % 8) = z at *
      omega
    have hc := (B[(k0 + j) / 8]?.getD 0).toNat_lt
    have hx : (B[(k0 + j) / 8]?.getD 0).toNat ^^^ 2 ^ ((k0 + j) % 8) < 256 := Nat.xor_lt_two_pow (n := 8) (by omega) (by omega)
    rw [e, u8_xor_nat _ _ (by omega) hp]
    have hs := h.set ((k0 + j) / 8) h3 (UInt8.ofNat ((B.getD ((k0 + j) / 8) 0).toNat ^^^ 2 ^ ((k0 + j) % 8)))
    rw [List.getD_eq_getElem?_getD, UInt8.toNat_ofNat', Nat.mod_eq_of_lt (by omega)] at hs
    refine RowAt.kept (w := wr.setCell _ _) ?_ rfl
    unfold Fr.flip
    rw [List.getD_eq_getElem?_getD]
    exact hs
  · rw [val_flip _ _ h3, hv, Nat.xor_assoc]
    congr 1
    apply Nat.eq_of_testBit_eq
    intro i
    rw [Nat.testBit_xor, Nat.testBit_two_pow_mul, Nat.testBit_two_pow_mul, Nat.testBit_xor, Nat.testBit_two_pow, Nat.testBit_two_pow]
    by_cases hi : k0 ≤ i
    · have : (k0 + j = i) = (j = i - k0) := by apply propext; omega
      simp [hi, this]
    · have : ¬ (k0 + j = i) := by omega
      simp [hi, this]

set_option maxRecDepth 100000 in
set_option maxHeartbeats 1000000 in
theorem turned_big (q e : Nat) (t : ByteArray) (a m : Nat) (w : World) (h : (300 : Int) < (t.size : Int)) :
    Calls Try.prog 4 #[.agg #[.int .u64 q, .int .u64 e, .string t], .int .u16 a, .int .u32 m] w fun e w' => e = .returned (.bool true) ∧ Below w.heap.size w w' := by
  have h2 : decide ((300 : Int) < (t.size : Int)) = true := decide_eq_true h
  have h3 : decide (300 < t.size) = true := decide_eq_true (by omega)
  go_enter Try.func4, Try.ntmps4
  go_wp2_with (go_at_call 10; refine (shown_any _).mono ?_; rintro e' w' ⟨rfl, hb⟩)
  go_ret
  exact ⟨rfl, ((Below.refl _ w).alloc (Nat.le_refl _) _).trans (hb.mono (by simp))⟩

set_option maxRecDepth 100000 in
set_option maxHeartbeats 1000000 in
theorem turned_small (q e : Nat) (t : ByteArray) (a m : Nat) (w : World) (hq : q < 18446744073709551616) (he : e < 18446744073709551616) (ht : t.size ≤ 300) (ha : a < 65536) (hm : m < 4294967296) :
    Calls Try.prog 4 #[.agg #[.int .u64 q, .int .u64 e, .string t], .int .u16 a, .int .u32 m] w fun e w' => e = .returned (.bool true) ∧ Below w.heap.size w w' := by
  have h2 : decide ((300 : Int) < (t.size : Int)) = false := decide_eq_false (by omega)
  have h3 : decide (300 < t.size) = false := decide_eq_false (by omega)
  go_enter Try.func4, Try.ntmps4
  go_wp2_with fail
  refine (shown_any _).mono ?_
  rintro e' w1 ⟨rfl, hb1⟩
  have hbx : ∀ j : Nat, w1.cell? ⟨w.heap.size, j, none⟩ = (#[Value.int .u64 q, .int .u64 e, .string t] : Array Value)[j]? := by
    intro j
    rw [hb1.cell (by simp)]
    exact World.cell?_alloc_at _ _ _ _ rfl
  have c0 : w1.cell? ⟨w.heap.size, 0, none⟩ = some (.int .u64 q) := hbx 0
  have c1 : w1.cell? ⟨w.heap.size, 1, none⟩ = some (.int .u64 e) := hbx 1
  have c2 : w1.cell? ⟨w.heap.size, 2, none⟩ = some (.string t) := hbx 2
  have hsz1 : w.heap.size + 1 ≤ w1.heap.size := by have := hb1.size; simpa using this
  go_wp2_with fail
  refine (put_any q e t _ hq he (by omega)).mono ?_
  rintro e' w2 ⟨rfl, hb2⟩
  obtain ⟨cap, w3, hrun, hb3, hsz3, hrow3⟩ := conv_row (ba (putL q e t.data.toList)) w2
  rw [ba_list] at hrow3
  rw [ba_size] at hrun
  have hlen : (putL q e t.data.toList).length = 24 + t.size := by rw [putL_length, list_size]
  rw [hlen] at hrun
  have HROW := Lib.hid hrow3
  have HB2 := Lib.hid hb2
  have HB3 := Lib.hid hb3
  have HS3 := Lib.hid hsz3
  have HLEN := Lib.hid hlen
  clear hrow3 hb2 hb3 hsz3 hlen
  by_cases h4 : a % 4 = 0
  · have t4 : (((a : Int) % 4) == 0) = true := beq_iff_eq.2 (by omega)
    have H4 := Lib.hid h4
    clear h4
    go_wp2
    obtain ⟨lo, hlo⟩ : ∃ lo : Nat, lo = 8 * (20 + t.size) := ⟨_, rfl⟩
    obtain ⟨hi, hhi⟩ : ∃ hi : Nat, hi = 8 * (24 + t.size) := ⟨_, rfl⟩
    rw [show (8 * (24 + (t.size : Int) - 4)) = (lo : Int) from by omega, show (8 * (24 + (t.size : Int))) = (hi : Int) from by omega]
    obtain ⟨k0, hk0⟩ : ∃ k0 : Nat, k0 = lo + a % (hi - lo) := ⟨_, rfl⟩
    have hk1 : lo ≤ k0 := by omega
    have hk2 : k0 < hi := by have := Nat.mod_lt a (show 0 < hi - lo by omega); omega
    have hk3 : (lo : Int) + (a : Int) % ((hi : Int) - (lo : Int)) = (k0 : Int) := by
      rw [hk0, Int.natCast_add, Int.natCast_emod, Int.ofNat_sub (by omega)]; try rfl
    have hlo8 : lo % 8 = 0 := by omega
    have hhi8 : hi % 8 = 0 := by omega
    have hlen2 : hi ≤ 8 * (24 + t.size) := by omega
    have HLO := Lib.hid hlo
    have HHI := Lib.hid hhi
    have HK0 := Lib.hid hk0
    clear hlo hhi hk0
    generalize hpl : putL q e t.data.toList = P0 at *
    have HPL := Lib.hid hpl
    clear hpl
    go_loopw [12, 13] (fun tu i wr => ∃ (j : Nat) (B : List UInt8), j ≤ 32 ∧ i = .int .i64 j ∧ tu = .bool (decide (acc m (hi - k0) j ≠ 0)) ∧ RowAt wr w2.heap.size B ∧ Below w2.heap.size w2 wr ∧
      B.length = P0.length ∧ B.take (lo / 8) = P0.take (lo / 8) ∧ B.drop (hi / 8) = P0.drop (hi / 8) ∧ Crc.val B = Crc.val P0 ^^^ 2 ^ k0 * acc m (hi - k0) j) (fun _ i _ => 32 - (intOf i).toNat)
    case atStart => exact ⟨0, P0, by omega, rfl, by simp [acc], HROW.out, HB3.out, rfl, rfl, rfl, by simp [acc]⟩
    case round =>
      obtain ⟨j, B, hj, rfl, rfl, hr, hbw, hBl, hBt, hBd, hBv⟩ := hrel
      have HR := Lib.hid hr
      have HBV := Lib.hid hBv
      have HBL := Lib.hid hBl
      have HBT := Lib.hid hBt
      have HBD := Lib.hid hBd
      have HBW := Lib.hid hbw
      clear hr hBv hBl hBt hBd hbw
      by_cases hlt : j < 32
      · have hbit := bit_walk m j hm
        have hacc : acc m (hi - k0) (j + 1) = if j < hi - k0 ∧ m.testBit j = true then acc m (hi - k0) j ^^^ 2 ^ j else acc m (hi - k0) j := rfl
        by_cases hc1 : k0 + j < hi
        · by_cases hc2 : m.testBit j = true
          · rw [if_pos ⟨by omega, hc2⟩] at hacc
            have HA := Lib.hid hacc
            rw [hc2] at hbit
            clear hacc hc2
            have hq8 : IntKind.i64.wrap (((k0 : Int) + j).tdiv 8) = (((k0 + j) / 8 : Nat) : Int) := quo_walk k0 j (by omega)
            have hr8 := shl_walk k0 j
            have hkl : (k0 + j) / 8 < 24 + t.size := by omega
            have hkl2 : (((k0 + j) / 8 : Nat) : Int) < 24 + (t.size : Int) := by omega
            have hk0' : (0 : Int) ≤ (((k0 + j) / 8 : Nat) : Int) := by omega
            have hBl2 : B.length = 24 + t.size := by rw [HBL.out]; exact HLEN.out
            obtain ⟨hcell, hfro⟩ := HR.out.cell ((k0 + j) / 8) (by omega)
            have HQ8 := Lib.hid hkl
            have hr7 : (k0 + j) % 8 < 8 := by omega
            clear hBl2
            go_wp2_with fail
            generalize hkq : (k0 + j) / 8 = kq at *
            generalize hkr : (k0 + j) % 8 = kr at *
            have HKQ := Lib.hid hkq
            have HKR := Lib.hid hkr
            clear hkq hkr
            go_region
            have hstep := round_step HR.out HBW.out HBL.out HBT.out HBD.out HBV.out HKQ.out (by have := HKQ.out; omega) (by have := HKQ.out; omega) (by rw [HBL.out, HLEN.out]; have := HKQ.out; omega)
            have hx := acc_ne m (hi - k0) j
            rw [← HA.out] at hx
            obtain ⟨g1, g2, g3, g4, g5, g6⟩ := hstep
            have HG1 := Lib.hid g1
            have HG2 := Lib.hid g2
            have HG6 := Lib.hid g6
            clear g1 g2 g6
            go_wp2
            go_roundw
            case rel => exact ⟨j + 1, Fr.flip B (k0 + j), by omega, by go_num, by rw [decide_eq_true hx], HG1.out, HG2.out, g3, g4, g5, by rw [HA.out]; exact HG6.out⟩
            case measure => simp [intOf]; omega
          · have hc3 : m.testBit j = false := by simpa using hc2
            rw [if_neg (fun z => hc2 z.2)] at hacc
            have HA := Lib.hid hacc
            rw [hc3] at hbit
            clear hacc hc2 hc3
            go_wp2
            go_roundw
            case rel => exact ⟨j + 1, B, by omega, by go_num, by rw [HA.out]; simp, HR.out, HBW.out, HBL.out, HBT.out, HBD.out, by rw [HA.out]; exact HBV.out⟩
            case measure => simp [intOf]; omega
        · rw [if_neg (fun z => absurd z.1 (by omega))] at hacc
          have HA := Lib.hid hacc
          clear hacc
          go_wp2
          go_roundw
          case rel => exact ⟨j + 1, B, by omega, by go_num, by rw [HA.out]; simp, HR.out, HBW.out, HBL.out, HBT.out, HBD.out, by rw [HA.out]; exact HBV.out⟩
          case measure => simp [intOf]; omega
      · have hj32 : j = 32 := by omega
        subst hj32
        have hBl2 : B.length = 24 + t.size := by rw [HBL.out]; exact HLEN.out
        have hconv := conv_text B w2.heap.size cap wr HR.out
        rw [hBl2] at hconv
        have HBL2 := Lib.hid hBl2
        clear hBl2
        go_wp2_with fail
        refine (firstS_any (ba B) wr (by rw [ba_size, HBL2.out]; omega)).mono ?_
        rintro e' w4 ⟨rfl, hb4⟩
        rw [ba_list]
        have HB4 := Lib.hid hb4
        clear hb4
        have hd : ∀ (ob : Obj) (j : Nat), (w4.alloc ob).cell? ⟨w.heap.size, j, none⟩ = (#[Value.int .u64 q, .int .u64 e, .string t] : Array Value)[j]? := by
          intro ob j
          rw [← hbx j]
          refine Below.cell (B := w.heap.size + 1) ?_ (by simp)
          exact ((((HB2.out.mono hsz1).trans (HBW.out.mono (by have := HB2.out.size; omega))).trans (HB4.out.mono (by have := HB2.out.size; have := HBW.out.size; omega))).alloc (by have := HB2.out.size; have := HBW.out.size; have := HB4.out.size; omega) ob)
        have d0 : ∀ ob : Obj, (w4.alloc ob).cell? ⟨w.heap.size, 0, none⟩ = some (.int .u64 q) := fun ob => hd ob 0
        have d1 : ∀ ob : Obj, (w4.alloc ob).cell? ⟨w.heap.size, 1, none⟩ = some (.int .u64 e) := fun ob => hd ob 1
        have d2 : ∀ ob : Obj, (w4.alloc ob).cell? ⟨w.heap.size, 2, none⟩ = some (.string t) := fun ob => hd ob 2
        clear hd
        have hend : ∀ ob : Obj, Below w.heap.size w (w4.alloc ob) := fun ob => by
          have s1 := HB2.out.size
          have s2 := HBW.out.size
          have s3 := HB4.out.size
          exact (((((Below.refl _ w).alloc (Nat.le_refl _) _).trans (hb1.mono (by simp))).trans (HB2.out.mono (by omega))).trans ((HBW.out.mono (by omega)).trans (HB4.out.mono (by omega)))).alloc (by omega) ob
        have HEND := Lib.hid hend
        clear hend
        by_cases h0 : acc m (hi - k0) 32 = 0
        · have hB : B = P0 := val_inj _ _ HBL.out (by rw [HBV.out, h0]; simp)
          have hF : firstL B = (q, e, t.data.toList, [], 0) := by
            have := first_put q e t.data.toList [] hq he (by rw [list_size]; omega)
            rw [List.append_nil] at this
            rw [hB, ← HPL.out]; exact this
          rw [hF]
          have hz : decide (acc m (hi - k0) 32 ≠ 0) = false := decide_eq_false (fun z => z h0)
          rw [hz]
          clear hF hB
          go_wp2_with fail
          go_ret
          exact ⟨by simp [ba_of, nil_text], HEND.out _⟩
        · have hF : firstL B = (0, 0, [], [], 70) := by
            have e1 : lo / 8 = 20 + t.data.toList.length := by rw [list_size]; have := HLO.out; omega
            refine turned_tail q e t.data.toList B (by rw [list_size]; omega) (by rw [list_size, HBL2.out]) ?_ ?_
            · rw [← e1, HPL.out]; exact HBT.out
            · rw [HPL.out]; exact acc_moves HBV.out h0
          rw [hF]
          have hz : decide (acc m (hi - k0) 32 ≠ 0) = true := decide_eq_true h0
          rw [hz]
          clear hF
          have hnil := nil_text
          go_wp2_with fail
          all_goals (go_ret; exact ⟨by simp [nil_text], HEND.out _⟩)
  · have t4 : (((a : Int) % 4) == 0) = false := beq_eq_false_iff_ne.2 (by omega)
    have H4 := Lib.hid h4
    clear h4
    go_wp2
    obtain ⟨hi, hhi⟩ : ∃ hi : Nat, hi = 8 * (20 + t.size) := ⟨_, rfl⟩
    rw [show (8 * (24 + (t.size : Int) - 4)) = (hi : Int) from by omega]
    obtain ⟨k0, hk0⟩ : ∃ k0 : Nat, k0 = 32 + a % (hi - 32) := ⟨_, rfl⟩
    have hk1 : 32 ≤ k0 := by omega
    have hk2 : k0 < hi := by have := Nat.mod_lt a (show 0 < hi - 32 by omega); omega
    have hk3 : (32 : Int) + (a : Int) % ((hi : Int) - (32 : Int)) = (k0 : Int) := by
      rw [hk0, Int.natCast_add, Int.natCast_emod, Int.ofNat_sub (by omega)]; try rfl
    have hhi8 : hi % 8 = 0 := by omega
    have hlen2 : hi ≤ 8 * (24 + t.size) := by omega
    have HHI := Lib.hid hhi
    have HK0 := Lib.hid hk0
    clear hhi hk0
    generalize hpl : putL q e t.data.toList = P0 at *
    have HPL := Lib.hid hpl
    clear hpl
    go_loopw [12, 13] (fun tu i wr => ∃ (j : Nat) (B : List UInt8), j ≤ 32 ∧ i = .int .i64 j ∧ tu = .bool (decide (acc m (hi - k0) j ≠ 0)) ∧ RowAt wr w2.heap.size B ∧ Below w2.heap.size w2 wr ∧
      B.length = P0.length ∧ B.take (32 / 8) = P0.take (32 / 8) ∧ B.drop (hi / 8) = P0.drop (hi / 8) ∧ Crc.val B = Crc.val P0 ^^^ 2 ^ k0 * acc m (hi - k0) j) (fun _ i _ => 32 - (intOf i).toNat)
    case atStart => exact ⟨0, P0, by omega, rfl, by simp [acc], HROW.out, HB3.out, rfl, rfl, rfl, by simp [acc]⟩
    case round =>
      obtain ⟨j, B, hj, rfl, rfl, hr, hbw, hBl, hBt, hBd, hBv⟩ := hrel
      have HR := Lib.hid hr
      have HBV := Lib.hid hBv
      have HBL := Lib.hid hBl
      have HBT := Lib.hid hBt
      have HBD := Lib.hid hBd
      have HBW := Lib.hid hbw
      clear hr hBv hBl hBt hBd hbw
      by_cases hlt : j < 32
      · have hbit := bit_walk m j hm
        have hacc : acc m (hi - k0) (j + 1) = if j < hi - k0 ∧ m.testBit j = true then acc m (hi - k0) j ^^^ 2 ^ j else acc m (hi - k0) j := rfl
        by_cases hc1 : k0 + j < hi
        · by_cases hc2 : m.testBit j = true
          · rw [if_pos ⟨by omega, hc2⟩] at hacc
            have HA := Lib.hid hacc
            rw [hc2] at hbit
            clear hacc hc2
            have hq8 : IntKind.i64.wrap (((k0 : Int) + j).tdiv 8) = (((k0 + j) / 8 : Nat) : Int) := quo_walk k0 j (by omega)
            have hr8 := shl_walk k0 j
            have hkl : (k0 + j) / 8 < 24 + t.size := by omega
            have hkl2 : (((k0 + j) / 8 : Nat) : Int) < 24 + (t.size : Int) := by omega
            have hk0' : (0 : Int) ≤ (((k0 + j) / 8 : Nat) : Int) := by omega
            have hBl2 : B.length = 24 + t.size := by rw [HBL.out]; exact HLEN.out
            obtain ⟨hcell, hfro⟩ := HR.out.cell ((k0 + j) / 8) (by omega)
            have HQ8 := Lib.hid hkl
            have hr7 : (k0 + j) % 8 < 8 := by omega
            clear hBl2
            go_wp2_with fail
            generalize hkq : (k0 + j) / 8 = kq at *
            generalize hkr : (k0 + j) % 8 = kr at *
            have HKQ := Lib.hid hkq
            have HKR := Lib.hid hkr
            clear hkq hkr
            go_region
            have hstep := round_step HR.out HBW.out HBL.out HBT.out HBD.out HBV.out HKQ.out (by have := HKQ.out; omega) (by have := HKQ.out; omega) (by rw [HBL.out, HLEN.out]; have := HKQ.out; omega)
            have hx := acc_ne m (hi - k0) j
            rw [← HA.out] at hx
            obtain ⟨g1, g2, g3, g4, g5, g6⟩ := hstep
            have HG1 := Lib.hid g1
            have HG2 := Lib.hid g2
            have HG6 := Lib.hid g6
            clear g1 g2 g6
            go_wp2
            go_roundw
            case rel => exact ⟨j + 1, Fr.flip B (k0 + j), by omega, by go_num, by rw [decide_eq_true hx], HG1.out, HG2.out, g3, g4, g5, by rw [HA.out]; exact HG6.out⟩
            case measure => simp [intOf]; omega
          · have hc3 : m.testBit j = false := by simpa using hc2
            rw [if_neg (fun z => hc2 z.2)] at hacc
            have HA := Lib.hid hacc
            rw [hc3] at hbit
            clear hacc hc2 hc3
            go_wp2
            go_roundw
            case rel => exact ⟨j + 1, B, by omega, by go_num, by rw [HA.out]; simp, HR.out, HBW.out, HBL.out, HBT.out, HBD.out, by rw [HA.out]; exact HBV.out⟩
            case measure => simp [intOf]; omega
        · rw [if_neg (fun z => absurd z.1 (by omega))] at hacc
          have HA := Lib.hid hacc
          clear hacc
          go_wp2
          go_roundw
          case rel => exact ⟨j + 1, B, by omega, by go_num, by rw [HA.out]; simp, HR.out, HBW.out, HBL.out, HBT.out, HBD.out, by rw [HA.out]; exact HBV.out⟩
          case measure => simp [intOf]; omega
      · have hj32 : j = 32 := by omega
        subst hj32
        have hBl2 : B.length = 24 + t.size := by rw [HBL.out]; exact HLEN.out
        have hconv := conv_text B w2.heap.size cap wr HR.out
        rw [hBl2] at hconv
        have HBL2 := Lib.hid hBl2
        clear hBl2
        go_wp2_with fail
        refine (firstS_any (ba B) wr (by rw [ba_size, HBL2.out]; omega)).mono ?_
        rintro e' w4 ⟨rfl, hb4⟩
        rw [ba_list]
        have HB4 := Lib.hid hb4
        clear hb4
        have hd : ∀ (ob : Obj) (j : Nat), (w4.alloc ob).cell? ⟨w.heap.size, j, none⟩ = (#[Value.int .u64 q, .int .u64 e, .string t] : Array Value)[j]? := by
          intro ob j
          rw [← hbx j]
          refine Below.cell (B := w.heap.size + 1) ?_ (by simp)
          exact ((((HB2.out.mono hsz1).trans (HBW.out.mono (by have := HB2.out.size; omega))).trans (HB4.out.mono (by have := HB2.out.size; have := HBW.out.size; omega))).alloc (by have := HB2.out.size; have := HBW.out.size; have := HB4.out.size; omega) ob)
        have d0 : ∀ ob : Obj, (w4.alloc ob).cell? ⟨w.heap.size, 0, none⟩ = some (.int .u64 q) := fun ob => hd ob 0
        have d1 : ∀ ob : Obj, (w4.alloc ob).cell? ⟨w.heap.size, 1, none⟩ = some (.int .u64 e) := fun ob => hd ob 1
        have d2 : ∀ ob : Obj, (w4.alloc ob).cell? ⟨w.heap.size, 2, none⟩ = some (.string t) := fun ob => hd ob 2
        clear hd
        have hend : ∀ ob : Obj, Below w.heap.size w (w4.alloc ob) := fun ob => by
          have s1 := HB2.out.size
          have s2 := HBW.out.size
          have s3 := HB4.out.size
          exact (((((Below.refl _ w).alloc (Nat.le_refl _) _).trans (hb1.mono (by simp))).trans (HB2.out.mono (by omega))).trans ((HBW.out.mono (by omega)).trans (HB4.out.mono (by omega)))).alloc (by omega) ob
        have HEND := Lib.hid hend
        clear hend
        by_cases h0 : acc m (hi - k0) 32 = 0
        · have hB : B = P0 := val_inj _ _ HBL.out (by rw [HBV.out, h0]; simp)
          have hF : firstL B = (q, e, t.data.toList, [], 0) := by
            have := first_put q e t.data.toList [] hq he (by rw [list_size]; omega)
            rw [List.append_nil] at this
            rw [hB, ← HPL.out]; exact this
          rw [hF]
          have hz : decide (acc m (hi - k0) 32 ≠ 0) = false := decide_eq_false (fun z => z h0)
          rw [hz]
          clear hF hB
          go_wp2_with fail
          go_ret
          exact ⟨by simp [ba_of, nil_text], HEND.out _⟩
        · have hF : firstL B = (0, 0, [], [], 70) := by
            have e1 : hi / 8 = 20 + t.data.toList.length := by rw [list_size]; have := HHI.out; omega
            refine turned_body q e t.data.toList B (by rw [list_size]; omega) (by rw [list_size, HBL2.out]) ?_ ?_ k0 _ ?_ (acc_lt m (hi - k0) 32) h0 ?_
            · rw [HPL.out]; exact HBT.out
            · rw [← e1, HPL.out]; exact HBD.out
            · rw [list_size]; have := HHI.out; omega
            · rw [HPL.out]; exact HBV.out
          rw [hF]
          have hz : decide (acc m (hi - k0) 32 ≠ 0) = true := decide_eq_true h0
          rw [hz]
          clear hF
          have hnil := nil_text
          go_wp2_with fail
          all_goals (go_ret; exact ⟨by simp [nil_text], HEND.out _⟩)

theorem turned_walk (a0 a1 : Int) (a2 : ByteArray) (a3 a4 : Int) (W : World) (h0 : (Lit.int .u64 a0).wf = true) (h1 : (Lit.int .u64 a1).wf = true) (_h2 : a2.size ≤ maxLen) (h3 : (Lit.int .u16 a3).wf = true) (h4 : (Lit.int .u32 a4).wf = true) :
    Calls Try.prog 4 #[.agg #[.int .u64 a0, .int .u64 a1, .string a2], .int .u16 a3, .int .u32 a4] W fun e w' => e = .returned (.bool true) ∧ Below W.heap.size W w' := by
  obtain ⟨b00, b01⟩ := bounds_u64 h0
  obtain ⟨b10, b11⟩ := bounds_u64 h1
  obtain ⟨b30, b31⟩ := bounds_u16 h3
  obtain ⟨b40, b41⟩ := bounds_u32 h4
  obtain ⟨q, rfl⟩ := Int.eq_ofNat_of_zero_le b00
  obtain ⟨e, rfl⟩ := Int.eq_ofNat_of_zero_le b10
  obtain ⟨a, rfl⟩ := Int.eq_ofNat_of_zero_le b30
  obtain ⟨m, rfl⟩ := Int.eq_ofNat_of_zero_le b40
  by_cases ht : a2.size ≤ 300
  · exact turned_small q e a2 a m W (by omega) (by omega) ht (by omega) (by omega)
  · exact turned_big q e a2 a m W (by omega)

end Go.Proofs.Ytjkjcimoeohijaa
