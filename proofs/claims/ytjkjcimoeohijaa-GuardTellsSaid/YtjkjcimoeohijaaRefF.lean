/- Plain: what the printed functions of the document's own answer (package syzygyref07) answer: the same as guard's. -/
import Derived.Test.YtjkjcimoeohijaaGuardF
import Derived.Test.YtjkjcimoeohijaaPAllx6
import Derived.Test.YtjkjcimoeohijaaPAllx7
import Derived.Test.YtjkjcimoeohijaaPAllx8
import Derived.Test.YtjkjcimoeohijaaPAllx9
namespace Go.Proofs.Ytjkjcimoeohijaa.Pure
open Go.RowKit Go.Proofs.Ytjkjcimoeohijaa.PAll Go.Proofs.YtjkjcimoeohijaaW.PrintWords Go.Proofs.YtjkjcimoeohijaaW.PrintLast Go.Proofs.Ytjkjcimoeohijaa.Fr

theorem wrap_all {x : Int} (h0 : -9223372036854775808 ≤ x) (h1 : x < 9223372036854775808) : wrap64 x = x := by unfold wrap64; omega

theorem shr_byte (n i : Nat) (hi : i ≤ 7) : (shr .u64 (n : Int) (8 * (i : Int))) % 256 = ((UInt8.ofNat (n / 256 ^ i)).toNat : Int) := by
  unfold shr
  rw [show min (8 * (i : Int)).toNat IntKind.u64.bits = 8 * i from by simp only [IntKind.bits]; omega]
  have : (256 : Nat) ^ i = 2 ^ (8 * i) := by rw [Nat.pow_mul]
  rw [this]
  simp

theorem reffixed_loop (n w : Nat) (hw : w ≤ 8) (d : Nat) : ∀ (k j : Nat) (l : List Int), j + d = w → d < k → l = ((Num.fixL n w).take j).map (fun c => (c.toNat : Int)) →
    syzygyref07_fixed.l0 k n l ((w : Int) - 1 - j) = some (ba (Num.fixL n w)) := by
  induction d with
  | zero =>
    intro k j l hj hk hl
    obtain ⟨k, rfl⟩ : ∃ m, k = m + 1 := ⟨k - 1, by omega⟩
    obtain rfl : j = w := by omega
    simp only [syzygyref07_fixed.l0]
    rw [if_neg (by omega), hl, List.take_of_length_le (by rw [Num.fixL_length]; omega)]
    have hid : ((fun (n : Int) => UInt8.ofNat n.toNat) ∘ fun (c : UInt8) => (c.toNat : Int)) = id := by funext c; simp
    simp [strOfNums, ba, hid]
  | succ d ih =>
    intro k j l hj hk hl
    obtain ⟨k, rfl⟩ : ∃ m, k = m + 1 := ⟨k - 1, by omega⟩
    have hlen : l.length ≤ 8 := by rw [hl, List.length_map, List.length_take, Num.fixL_length]; omega
    obtain ⟨i, hi, hi2⟩ : ∃ i : Nat, (w : Int) - 1 - j = (i : Int) ∧ i = w - 1 - j := ⟨w - 1 - j, by omega, rfl⟩
    simp only [syzygyref07_fixed.l0]
    rw [hi, if_pos (by omega), wrap_in (x := 8 * (i : Int)) (by omega) (by omega), if_pos (by omega), if_pos (by omega), wrap_all (x := (i : Int) - 1) (by omega) (by omega), shr_byte n i (by omega)]
    have hnext : (i : Int) - 1 = (w : Int) - 1 - ((j + 1 : Nat) : Int) := by omega
    rw [hnext]
    refine ih k (j + 1) _ (by omega) (by omega) ?_
    have hget := Num.fixL_get w n j (by omega)
    rw [List.take_add_one, hget, hl, ← hi2]
    simp

theorem reffixed_some (n w k : Nat) (hw : w ≤ 8) (hk : 9 ≤ k) : syzygyref07_fixed.f k n w = some (ba (Num.fixL n w)) := by
  unfold syzygyref07_fixed.f
  rw [wrap_all (x := (w : Int) - 1) (by omega) (by omega)]
  have := reffixed_loop n w hw w k 0 [] (by omega) (by omega) (by simp)
  simpa using this

theorem refsum_some (s : ByteArray) (h : s.size ≤ 9223372036854775807) : syzygyref07_Sum.f s = some ((Crc.crc s.data.toList : Nat) : Int) := by
  unfold syzygyref07_Sum.f; rw [if_pos h]
theorem refnum_some (s : ByteArray) (h : s.size ≤ 8) : syzygyref07_number.f s = some ((Num.numL s.data.toList : Nat) : Int) := by
  unfold syzygyref07_number.f; rw [if_pos h]

theorem refput_some (q e k : Nat) (hk : 9 ≤ k) (t : ByteArray) (ht : t.size ≤ 8192) :
    syzygyref07_Put.f k q e t = some (ba (putL q e t.data.toList), 0) := by
  have f4 := Num.fixL_length 4 t.size
  have fq := Num.fixL_length 8 q
  have fe := Num.fixL_length 8 e
  have fc := Num.fixL_length 4 (Crc.crc (bodyL q e t.data.toList))
  have hl := list_size t
  have hb := bodyL_length q e t.data.toList
  unfold syzygyref07_Put.f
  rw [if_neg (by omega), wrap_u64 (by omega) (by omega)]
  rw [show ((4 : Int)) = ((4 : Nat) : Int) from rfl, show ((8 : Int)) = ((8 : Nat) : Int) from rfl]
  rw [reffixed_some _ _ k (by omega) hk, reffixed_some _ _ k (by omega) hk, reffixed_some _ _ k (by omega) hk]
  simp only [Option.bind_some]
  rw [if_pos (by simp; omega)]
  have eb : ((ba (Num.fixL t.size 4) ++ ba (Num.fixL q 8)) ++ ba (Num.fixL e 8)) ++ t = ba (bodyL q e t.data.toList) := by
    have e : ∀ a : List UInt8, ba a ++ t = ba (a ++ t.data.toList) := fun a => by rw [← ba_append, ba_of]
    rw [ba_append, ba_append, e]; unfold bodyL; rw [hl]
  rw [if_pos (by rw [ba_append]; simp; omega), if_pos (by rw [ba_append, ba_append]; simp; omega), eb]
  rw [refsum_some (ba (bodyL q e t.data.toList)) (by rw [ba_size]; omega), ba_list]
  rw [Option.bind_some]
  have hc := Crc.crc_lt (bodyL q e t.data.toList)
  rw [wrap_u64 (by omega) (by omega), reffixed_some _ _ k (by omega) hk]
  rw [Option.bind_some]
  rw [if_pos (by rw [ba_size, ba_size]; omega), ba_append]
  unfold putL
  exact rfl

theorem refput_big (q e : Int) (k : Nat) (t : ByteArray) (ht : 8192 < t.size) : syzygyref07_Put.f k q e t = some (⟨#[]⟩, 71) := by
  unfold syzygyref07_Put.f
  rw [if_pos (by omega)]

theorem num4_lt (l : List UInt8) (h : l.length = 4) : Num.numL l < 4294967296 := by
  have := Num.numL_lt l
  rw [h] at this
  exact Nat.lt_of_lt_of_le this (by decide)

theorem reffirst_some (s : ByteArray) (hs : s.size ≤ 140737488351232) : syzygyref07_First.f s = some (asV (firstL s.data.toList)) := by
  have hl := list_size s
  unfold syzygyref07_First.f
  by_cases h0 : s.size = 0
  · rw [firstL_empty (by omega), if_pos (by omega)]; rfl
  rw [if_neg (by omega)]
  by_cases h1 : s.size < 24
  · rw [firstL_short (by omega) (by omega), if_pos (by omega)]; rfl
  rw [if_neg (by omega), if_pos (by omega), if_pos (by omega)]
  rw [refnum_some _ (by rw [ByteArray.size_extract]; omega)]
  rw [Option.bind_some, extract_list, List.drop_zero]
  have hnum4 := num4_lt (s.data.toList.take 4) (by rw [List.length_take]; omega)
  rw [wrap_in (x := (Num.numL (s.data.toList.take 4) : Int)) (by omega) (by omega)]
  by_cases h2 : Num.numL (s.data.toList.take 4) > 8192
  · rw [firstL_cap (by omega) h2, if_pos (by omega)]; rfl
  rw [if_neg (by omega), wrap_in (x := 24 + (Num.numL (s.data.toList.take 4) : Int)) (by omega) (by omega), wrap_in (x := 20 + (Num.numL (s.data.toList.take 4) : Int)) (by omega) (by omega)]
  by_cases h3 : s.size < 24 + Num.numL (s.data.toList.take 4)
  · rw [firstL_cut (by omega) h2 (by omega), if_pos (by omega)]; rfl
  rw [if_neg (by omega), if_pos (by omega), if_pos (by omega)]
  rw [refsum_some _ (by rw [ByteArray.size_extract]; omega)]
  rw [Option.bind_some, extract_list, List.drop_zero]
  rw [if_pos (by omega), if_pos (by omega), refnum_some _ (by rw [ByteArray.size_extract]; omega)]
  rw [Option.bind_some, extract_list]
  rw [show (20 + (Num.numL (s.data.toList.take 4) : Int)).toNat = 20 + Num.numL (s.data.toList.take 4) from by omega, show (24 + (Num.numL (s.data.toList.take 4) : Int)).toNat = 24 + Num.numL (s.data.toList.take 4) from by omega]
  have hc := Crc.crc_lt (s.data.toList.take (20 + Num.numL (s.data.toList.take 4)))
  rw [wrap_u64 (by omega) (by omega)]
  by_cases h4 : Crc.crc (s.data.toList.take (20 + Num.numL (s.data.toList.take 4))) = Num.numL ((s.data.toList.take (24 + Num.numL (s.data.toList.take 4))).drop (20 + Num.numL (s.data.toList.take 4)))
  rotate_left
  · rw [firstL_sum (by omega) h2 (by omega) h4, if_neg (by omega)]; rfl
  rw [firstL_ok (by omega) h2 (by omega) h4, if_pos (by omega), if_pos (by omega), if_pos (by omega), refnum_some _ (by rw [ByteArray.size_extract]; omega)]
  rw [Option.bind_some, extract_list]
  rw [if_pos (by omega), if_pos (by omega), refnum_some _ (by rw [ByteArray.size_extract]; omega)]
  rw [Option.bind_some, extract_list]
  rw [if_pos (by omega), if_pos (by omega)]
  unfold asV
  congr 1
  refine Prod.ext rfl (Prod.ext rfl (Prod.ext ?_ (Prod.ext ?_ rfl)))
  · apply ext_list; simp only [extract_list, ba_list]
  · apply ext_list; simp only [extract_list, ba_list]; rw [← hl, List.take_length]

end Go.Proofs.Ytjkjcimoeohijaa.Pure
