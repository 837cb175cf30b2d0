/- Plain: turning bits of a text, and what becomes of a frame some of whose bits are turned. No program in sight. -/
import Derived.Test.YtjkjcimoeohijaaBurst
import Derived.Test.YtjkjcimoeohijaaFrame
namespace Go.Proofs.Ytjkjcimoeohijaa.Fr
open Num Crc

/-- bit k of a text, turned -/
def flip (l : List UInt8) (k : Nat) : List UInt8 := l.set (k / 8) (UInt8.ofNat ((l.getD (k / 8) 0).toNat ^^^ 2 ^ (k % 8)))
theorem flip_length (l : List UInt8) (k : Nat) : (flip l k).length = l.length := by simp [flip]
theorem flip_take (l : List UInt8) (k m : Nat) (h : m ≤ k / 8) : (flip l k).take m = l.take m := by
  unfold flip; rw [List.take_set, List.set_eq_of_length_le (by rw [List.length_take]; omega)]
theorem flip_drop (l : List UInt8) (k m : Nat) (h : k / 8 < m) : (flip l k).drop m = l.drop m := by
  unfold flip; rw [List.drop_set_of_lt h]

theorem val_flip : ∀ (l : List UInt8) (k : Nat), k / 8 < l.length → val (flip l k) = val l ^^^ 2 ^ k := by
  intro l
  induction l with
  | nil => intro k h; simp at h
  | cons c l ih =>
    intro k h
    have hc := c.toNat_lt
    by_cases hk : k < 8
    · have h0 : k / 8 = 0 := by omega
      have hm : k % 8 = k := by omega
      have h2 : (2 : Nat) ^ k < 256 := Nat.pow_lt_pow_of_lt (a := 2) (m := 8) (by omega) (by omega)
      have hx : c.toNat ^^^ 2 ^ k < 256 := Nat.xor_lt_two_pow (n := 8) (by omega) (by omega)
      unfold flip
      rw [h0, hm]
      simp only [List.set_cons_zero, List.getD_cons_zero, val, UInt8.toNat_ofNat']
      rw [Nat.mod_eq_of_lt (by omega), add_xor _ _ hx, add_xor _ _ (by omega), Nat.xor_assoc, Nat.xor_comm (2 ^ k), ← Nat.xor_assoc]
    · obtain ⟨j, rfl⟩ : ∃ j, k = j + 8 := ⟨k - 8, by omega⟩
      have h1 : (j + 8) / 8 = j / 8 + 1 := by omega
      have hm : (j + 8) % 8 = j % 8 := by omega
      have := ih j (by rw [h1] at h; simpa using h)
      unfold flip at this ⊢
      rw [h1, hm]
      simp only [List.set_cons_succ, List.getD_cons_succ, val]
      rw [this, add_xor _ _ (by omega), add_xor c.toNat (val l) (by omega)]
      rw [show (2 : Nat) ^ (j + 8) = 256 * 2 ^ j from by rw [Nat.pow_add, Nat.mul_comm]]
      have e : 256 * (val l ^^^ 2 ^ j) = 256 * val l ^^^ 256 * 2 ^ j := by
        apply Nat.eq_of_testBit_eq
        intro i
        rw [show (256 : Nat) = 2 ^ 8 from rfl, Nat.testBit_xor, Nat.testBit_two_pow_mul, Nat.testBit_two_pow_mul, Nat.testBit_two_pow_mul, Nat.testBit_xor]
        by_cases hi : 8 ≤ i <;> simp [hi]
      rw [e, Nat.xor_assoc]

/-- which bits of the mask were turned, behind i of them; c: how many there is room for -/
def acc (bits c : Nat) : Nat → Nat
  | 0 => 0
  | i + 1 => if i < c ∧ bits.testBit i = true then acc bits c i ^^^ 2 ^ i else acc bits c i
theorem acc_lt (bits c : Nat) : ∀ i, acc bits c i < 2 ^ i := by
  intro i
  induction i with
  | zero => simp [acc]
  | succ i ih =>
    have h2 : acc bits c i < 2 ^ (i + 1) := Nat.lt_trans ih (Nat.pow_lt_pow_of_lt (by omega) (by omega))
    simp only [acc]
    split
    · exact Nat.xor_lt_two_pow h2 (Nat.pow_lt_pow_of_lt (by omega) (by omega))
    · exact h2
theorem acc_ne (bits c i : Nat) : acc bits c i ^^^ 2 ^ i ≠ 0 := by
  intro h
  have h1 := congrArg (fun x => x.testBit i) h
  have h2 := Nat.testBit_lt_two_pow (acc_lt bits c i)
  simp [Nat.testBit_xor, h2, Nat.testBit_two_pow_self] at h1

theorem val_inj : ∀ (a b : List UInt8), a.length = b.length → val a = val b → a = b := by
  intro a
  induction a with
  | nil => intro b h _; simp at h; exact (List.length_eq_zero_iff.1 h.symm).symm
  | cons c a ih =>
    intro b h hv
    match b, h, hv with
    | d :: b, h, hv =>
      have hc := c.toNat_lt
      have hd := d.toNat_lt
      simp only [val] at hv
      have h1 : c.toNat = d.toNat := by omega
      have h2 : val a = val b := by omega
      rw [UInt8.toNat_inj.1 h1, ih b (by simpa using h) h2]

theorem val_append (a b : List UInt8) : val (a ++ b) = val a + 256 ^ a.length * val b := by
  induction a with
  | nil => simp [val]
  | cons c a ih => simp only [List.cons_append, val, ih, List.length_cons, Nat.pow_succ, Nat.mul_add]; rw [Nat.mul_comm (256 ^ a.length) 256, Nat.mul_assoc]; omega
theorem val_lt (a : List UInt8) : val a < 256 ^ a.length := by
  induction a with
  | nil => simp [val]
  | cons c a ih => have := c.toNat_lt; simp only [val, List.length_cons, Nat.pow_succ]; omega
theorem val_append_xor (a b : List UInt8) : val (a ++ b) = val a ^^^ 256 ^ a.length * val b := by
  rw [val_append, show (256 : Nat) ^ a.length = 2 ^ (8 * a.length) from by rw [Nat.pow_mul]]
  have h := val_lt a
  rw [show (256 : Nat) ^ a.length = 2 ^ (8 * a.length) from by rw [Nat.pow_mul]] at h
  rw [Nat.add_comm, Nat.two_pow_add_eq_or_of_lt h]
  apply Nat.eq_of_testBit_eq
  intro i
  rw [Nat.testBit_xor, Nat.testBit_or, Nat.testBit_two_pow_mul]
  by_cases hi : i < 8 * a.length
  · simp [Nat.not_le.2 hi]
  · have : (val a).testBit i = false := Nat.testBit_lt_two_pow (Nat.lt_of_lt_of_le h (Nat.pow_le_pow_right (by omega) (by omega)))
    rw [this]; simp

/-- a frame, bits of whose body (behind the length) are turned in a burst, is none -/
theorem turned_body (q e : Nat) (t b : List UInt8) (ht : t.length ≤ 8192) (hb : b.length = 24 + t.length) (h4 : b.take 4 = (putL q e t).take 4) (hd : b.drop (20 + t.length) = (putL q e t).drop (20 + t.length))
    (p w : Nat) (hp : p ≤ 8 * (20 + t.length)) (hw : w < 4294967296) (h0 : w ≠ 0) (hv : val b = val (putL q e t) ^^^ 2 ^ p * w) : firstL b = (0, 0, [], [], 70) := by
  have hpl := putL_length q e t
  have hbl := bodyL_length q e t
  have en : numL (b.take 4) = t.length := by
    rw [h4]
    have h4 := fixL_length 4 t.length
    have : (putL q e t).take 4 = fixL t.length 4 := by
      simp only [putL, bodyL, List.append_assoc]
      rw [List.take_append_of_le_length (by omega), List.take_of_length_le (by omega)]
    rw [this, numL_fixL]; exact Nat.mod_eq_of_lt (by omega)
  have eb : (putL q e t).take (20 + t.length) = bodyL q e t := by
    rw [putL, List.take_append_of_le_length (by omega), List.take_of_length_le (by omega)]
  have hc4 := fixL_length 4 (crc (bodyL q e t))
  have ec : (b.take (24 + t.length)).drop (20 + t.length) = fixL (crc (bodyL q e t)) 4 := by
    rw [List.take_of_length_le (by omega), hd, putL, List.drop_append_of_le_length (by omega), List.drop_eq_nil_of_le (by omega), List.nil_append]
  have hne : crc (b.take (20 + t.length)) ≠ crc (bodyL q e t) := by
    refine crc_burst _ _ p w (by rw [List.length_take]; omega) ?_ (by rw [List.length_take]; omega) hw h0
    have e1 := val_append_xor (b.take (20 + t.length)) (b.drop (20 + t.length))
    have e2 := val_append_xor ((putL q e t).take (20 + t.length)) ((putL q e t).drop (20 + t.length))
    rw [List.take_append_drop] at e1 e2
    have l1 : (b.take (20 + t.length)).length = 20 + t.length := by rw [List.length_take]; omega
    have l2 : ((putL q e t).take (20 + t.length)).length = 20 + t.length := by rw [List.length_take]; omega
    rw [hd, l1] at e1
    rw [l2] at e2
    rw [eb] at e2
    have key : val b ^^^ val (putL q e t) = val (b.take (20 + t.length)) ^^^ val (bodyL q e t) := by
      rw [e1, e2]
      generalize val (List.take (20 + t.length) b) = x
      generalize 256 ^ (20 + t.length) * val (List.drop (20 + t.length) (putL q e t)) = y
      generalize val (bodyL q e t) = z
      rw [Nat.xor_assoc, Nat.xor_comm z y, ← Nat.xor_assoc y y, Nat.xor_self, Nat.zero_xor]
    rw [← key, hv, Nat.xor_comm, ← Nat.xor_assoc, Nat.xor_self, Nat.zero_xor]
  refine firstL_sum (by omega) (by rw [en]; omega) (by rw [en]; omega) ?_
  rw [en, ec, numL_fixL, Nat.mod_eq_of_lt (crc_lt _)]
  exact hne

/-- a frame, bits of whose sum are turned, is none -/
theorem turned_tail (q e : Nat) (t b : List UInt8) (ht : t.length ≤ 8192) (hb : b.length = 24 + t.length) (h20 : b.take (20 + t.length) = (putL q e t).take (20 + t.length)) (hne : b ≠ putL q e t) : firstL b = (0, 0, [], [], 70) := by
  have hpl := putL_length q e t
  have hbl := bodyL_length q e t
  have h4 : b.take 4 = (putL q e t).take 4 := by
    have := congrArg (List.take 4) h20
    rwa [List.take_take, List.take_take, Nat.min_eq_left (by omega)] at this
  have en : numL (b.take 4) = t.length := by
    rw [h4]
    have h4 := fixL_length 4 t.length
    have : (putL q e t).take 4 = fixL t.length 4 := by
      simp only [putL, bodyL, List.append_assoc]
      rw [List.take_append_of_le_length (by omega), List.take_of_length_le (by omega)]
    rw [this, numL_fixL]; exact Nat.mod_eq_of_lt (by omega)
  have eb : (putL q e t).take (20 + t.length) = bodyL q e t := by
    rw [putL, List.take_append_of_le_length (by omega), List.take_of_length_le (by omega)]
  refine firstL_sum (by omega) (by rw [en]; omega) (by rw [en]; omega) ?_
  rw [en, h20, eb, List.take_of_length_le (by omega)]
  intro h
  apply hne
  have l4 : (b.drop (20 + t.length)).length = 4 := by rw [List.length_drop]; omega
  have hx := fixL_numL (b.drop (20 + t.length)) 4 l4
  rw [← h] at hx
  rw [← List.take_append_drop (20 + t.length) b, h20, eb, ← hx]
  rfl

end Go.Proofs.Ytjkjcimoeohijaa.Fr
