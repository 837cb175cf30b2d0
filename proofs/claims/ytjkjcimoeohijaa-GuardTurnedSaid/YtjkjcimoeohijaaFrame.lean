/- Plain: what a frame is, and what a text begins by. No program in sight. -/
import Derived.Test.YtjkjcimoeohijaaCrc
import Derived.Test.YtjkjcimoeohijaaNum
namespace Go.Proofs.Ytjkjcimoeohijaa.Fr
open Num Crc

def ba (l : List UInt8) : ByteArray := ⟨l.toArray⟩
@[simp] theorem ba_size (l : List UInt8) : (ba l).size = l.length := by simp [ba, ByteArray.size]
@[simp] theorem ba_list (l : List UInt8) : (ba l).data.toList = l := by simp [ba]
theorem ba_of (s : ByteArray) : ba s.data.toList = s := by simp [ba]
theorem ba_append (l m : List UInt8) : ba l ++ ba m = ba (l ++ m) := by
  apply ByteArray.ext; simp [ba]
theorem ba_inj {l m : List UInt8} (h : ba l = ba m) : l = m := by have := congrArg (fun s => s.data.toList) h; simpa using this
theorem ext_list {s t : ByteArray} (h : s.data.toList = t.data.toList) : s = t := by rw [← ba_of s, ← ba_of t, h]
theorem extract_list (s : ByteArray) (a b : Nat) : (s.extract a b).data.toList = (s.data.toList.take b).drop a := by
  simp [List.take_drop]
  by_cases h : a ≤ b
  · rw [show a + (b - a) = b from by omega]
  · rw [List.drop_eq_nil_of_le (by simp; omega), List.drop_eq_nil_of_le (by simp; omega)]
theorem list_size (s : ByteArray) : s.data.toList.length = s.size := by simp

def bodyL (q e : Nat) (t : List UInt8) : List UInt8 := fixL t.length 4 ++ fixL q 8 ++ fixL e 8 ++ t
def putL (q e : Nat) (t : List UInt8) : List UInt8 := bodyL q e t ++ fixL (crc (bodyL q e t)) 4

theorem bodyL_length (q e : Nat) (t : List UInt8) : (bodyL q e t).length = 20 + t.length := by simp [bodyL, fixL_length]; omega
theorem putL_length (q e : Nat) (t : List UInt8) : (putL q e t).length = 24 + t.length := by simp [putL, bodyL_length, fixL_length]; omega

/-- what a text begins by: the frame's three parts, the rest, the error -/
def firstL (s : List UInt8) : Nat × Nat × List UInt8 × List UInt8 × Nat :=
  if s.length = 0 then (0, 0, [], [], 3)
  else if s.length < 24 then (0, 0, [], [], 60)
  else
    let n := numL (s.take 4)
    if n > 8192 then (0, 0, [], [], 71)
    else if s.length < 24 + n then (0, 0, [], [], 60)
    else if crc (s.take (20 + n)) = numL ((s.take (24 + n)).drop (20 + n)) then
      (numL ((s.take 12).drop 4), numL ((s.take 20).drop 12), (s.take (20 + n)).drop 20, s.drop (24 + n), 0)
    else (0, 0, [], [], 70)

theorem firstL_empty {s : List UInt8} (h0 : s.length = 0) : firstL s = (0, 0, [], [], 3) := by unfold firstL; rw [if_pos h0]
theorem firstL_short {s : List UInt8} (h0 : ¬ s.length = 0) (h1 : s.length < 24) : firstL s = (0, 0, [], [], 60) := by unfold firstL; rw [if_neg h0, if_pos h1]
theorem firstL_cap {s : List UInt8} (h1 : ¬ s.length < 24) (h2 : numL (s.take 4) > 8192) : firstL s = (0, 0, [], [], 71) := by
  unfold firstL; rw [if_neg (by omega), if_neg h1]; dsimp only; rw [if_pos h2]
theorem firstL_cut {s : List UInt8} (h1 : ¬ s.length < 24) (h2 : ¬ numL (s.take 4) > 8192) (h3 : s.length < 24 + numL (s.take 4)) : firstL s = (0, 0, [], [], 60) := by
  unfold firstL; rw [if_neg (by omega), if_neg h1]; dsimp only; rw [if_neg h2, if_pos h3]
theorem firstL_sum {s : List UInt8} (h1 : ¬ s.length < 24) (h2 : ¬ numL (s.take 4) > 8192) (h3 : ¬ s.length < 24 + numL (s.take 4))
    (h4 : ¬ crc (s.take (20 + numL (s.take 4))) = numL ((s.take (24 + numL (s.take 4))).drop (20 + numL (s.take 4)))) : firstL s = (0, 0, [], [], 70) := by
  unfold firstL; rw [if_neg (by omega), if_neg h1]; dsimp only; rw [if_neg h2, if_neg h3, if_neg h4]
theorem firstL_ok {s : List UInt8} (h1 : ¬ s.length < 24) (h2 : ¬ numL (s.take 4) > 8192) (h3 : ¬ s.length < 24 + numL (s.take 4))
    (h4 : crc (s.take (20 + numL (s.take 4))) = numL ((s.take (24 + numL (s.take 4))).drop (20 + numL (s.take 4)))) :
    firstL s = (numL ((s.take 12).drop 4), numL ((s.take 20).drop 12), (s.take (20 + numL (s.take 4))).drop 20, s.drop (24 + numL (s.take 4)), 0) := by
  unfold firstL; rw [if_neg (by omega), if_neg h1]; dsimp only; rw [if_neg h2, if_neg h3, if_pos h4]

def asV (x : Nat × Nat × List UInt8 × List UInt8 × Nat) : Int × Int × ByteArray × ByteArray × Int :=
  ((x.1 : Int), (x.2.1 : Int), ba x.2.2.1, ba x.2.2.2.1, (x.2.2.2.2 : Int))

theorem first_put (q e : Nat) (t more : List UInt8) (hq : q < 18446744073709551616) (he : e < 18446744073709551616) (ht : t.length ≤ 8192) :
    firstL (putL q e t ++ more) = (q, e, t, more, 0) := by
  have h4 := fixL_length 4 t.length
  have hq8 := fixL_length 8 q
  have he8 := fixL_length 8 e
  have hb := bodyL_length q e t
  have hc4 := fixL_length 4 (crc (bodyL q e t))
  have hcl := crc_lt (bodyL q e t)
  have hp := putL_length q e t
  have en : numL ((putL q e t ++ more).take 4) = t.length := by
    have : (putL q e t ++ more).take 4 = fixL t.length 4 := by
      simp only [putL, bodyL, List.append_assoc]
      rw [List.take_append_of_le_length (by omega), List.take_of_length_le (by omega)]
    rw [this, numL_fixL]; exact Nat.mod_eq_of_lt (by omega)
  have eb : (putL q e t ++ more).take (20 + t.length) = bodyL q e t := by
    rw [putL, List.append_assoc, List.take_append_of_le_length (by omega), List.take_of_length_le (by omega)]
  have ep : (putL q e t ++ more).take (24 + t.length) = putL q e t := by
    rw [List.take_append_of_le_length (by omega), List.take_of_length_le (by omega)]
  have ec : ((putL q e t ++ more).take (24 + t.length)).drop (20 + t.length) = fixL (crc (bodyL q e t)) 4 := by
    rw [ep, putL, List.drop_append_of_le_length (by omega), List.drop_eq_nil_of_le (by omega), List.nil_append]
  have e12 : ((putL q e t ++ more).take 12).drop 4 = fixL q 8 := by
    have : (putL q e t ++ more).take 12 = fixL t.length 4 ++ fixL q 8 := by
      simp only [putL, bodyL, List.append_assoc]
      rw [← List.append_assoc (fixL t.length 4), List.take_append_of_le_length (by simp; omega), List.take_of_length_le (by simp; omega)]
    rw [this, List.drop_append_of_le_length (by omega), List.drop_eq_nil_of_le (by omega), List.nil_append]
  have e20 : ((putL q e t ++ more).take 20).drop 12 = fixL e 8 := by
    have : (putL q e t ++ more).take 20 = (fixL t.length 4 ++ fixL q 8) ++ fixL e 8 := by
      simp only [putL, bodyL, List.append_assoc]
      rw [← List.append_assoc (fixL q 8), ← List.append_assoc (fixL t.length 4), List.take_append_of_le_length (by simp; omega), List.take_of_length_le (by simp; omega)]
    rw [this, List.drop_append_of_le_length (by simp; omega), List.drop_eq_nil_of_le (by simp; omega), List.nil_append]
  have et : ((putL q e t ++ more).take (20 + t.length)).drop 20 = t := by
    rw [eb, bodyL, List.drop_append_of_le_length (by simp; omega), List.drop_eq_nil_of_le (by simp; omega), List.nil_append]
  have er : (putL q e t ++ more).drop (24 + t.length) = more := by
    rw [List.drop_append_of_le_length (by omega), List.drop_eq_nil_of_le (by omega), List.nil_append]
  unfold firstL
  simp only [en, ec, eb, e12, e20, er, numL_fixL]
  rw [show (bodyL q e t).drop 20 = t from by rw [← eb]; exact et]
  rw [if_neg (by rw [List.length_append]; omega), if_neg (by rw [List.length_append]; omega), if_neg (by omega), if_neg (by rw [List.length_append]; omega), if_pos (Nat.mod_eq_of_lt (by omega : crc (bodyL q e t) < 256 ^ 4)).symm]
  rw [Nat.mod_eq_of_lt (by omega : q < 256 ^ 8), Nat.mod_eq_of_lt (by omega : e < 256 ^ 8)]

theorem cut3 (s : List UInt8) (a b : Nat) (h : a ≤ b) : s.take a ++ (s.take b).drop a = s.take b := by
  have := List.take_append_drop a (s.take b)
  rw [List.take_take, Nat.min_eq_left h] at this
  exact this

/-- what is told as a frame is one -/
theorem put_first {s : List UInt8} {q e : Nat} {t r : List UInt8} (h : firstL s = (q, e, t, r, 0)) :
    putL q e t ++ r = s ∧ q < 18446744073709551616 ∧ e < 18446744073709551616 ∧ t.length ≤ 8192 := by
  unfold firstL at h
  by_cases h0 : s.length = 0
  · rw [if_pos h0] at h; simp at h
  rw [if_neg h0] at h
  by_cases h1 : s.length < 24
  · rw [if_pos h1] at h; simp at h
  rw [if_neg h1] at h
  simp only at h
  by_cases h2 : numL (s.take 4) > 8192
  · rw [if_pos h2] at h; simp at h
  rw [if_neg h2] at h
  by_cases h3 : s.length < 24 + numL (s.take 4)
  · rw [if_pos h3] at h; simp at h
  rw [if_neg h3] at h
  by_cases h4 : crc (s.take (20 + numL (s.take 4))) = numL ((s.take (24 + numL (s.take 4))).drop (20 + numL (s.take 4)))
  rotate_left
  · rw [if_neg h4] at h; simp at h
  rw [if_pos h4] at h
  simp only [Prod.mk.injEq, and_true] at h
  obtain ⟨rfl, rfl, rfl, rfl⟩ := h
  generalize hn : numL (s.take 4) = n at *
  have l4 : (s.take 4).length = 4 := by simp; omega
  have l8 : ((s.take 12).drop 4).length = 8 := by simp; omega
  have l20 : ((s.take 20).drop 12).length = 8 := by simp; omega
  have lt : ((s.take (20 + n)).drop 20).length = n := by simp; omega
  have lc : ((s.take (24 + n)).drop (20 + n)).length = 4 := by simp; omega
  have eb : bodyL (numL ((s.take 12).drop 4)) (numL ((s.take 20).drop 12)) ((s.take (20 + n)).drop 20) = s.take (20 + n) := by
    unfold bodyL
    rw [lt, ← hn, fixL_numL _ 4 l4, fixL_numL _ 8 l8, fixL_numL _ 8 l20, hn, cut3 _ _ _ (by omega), cut3 _ _ _ (by omega), cut3 _ _ _ (by omega)]
  refine ⟨?_, ?_, ?_, by omega⟩
  · unfold putL
    rw [eb, h4, fixL_numL _ 4 lc, cut3 _ _ _ (by omega), List.take_append_drop]
  · exact numL_lt64 (by omega)
  · exact numL_lt64 (by omega)

theorem first_none {s : List UInt8} (h : (firstL s).2.2.2.2 ≠ 0) : (firstL s).1 = 0 ∧ (firstL s).2.1 = 0 ∧ (firstL s).2.2.1 = [] ∧ (firstL s).2.2.2.1 = [] := by
  revert h
  unfold firstL
  split
  · simp
  split
  · simp
  dsimp only
  split
  · simp
  split
  · simp
  split
  · simp
  · simp

end Go.Proofs.Ytjkjcimoeohijaa.Fr
