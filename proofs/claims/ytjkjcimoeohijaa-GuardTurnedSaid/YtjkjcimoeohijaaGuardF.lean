/- Plain: what the printed functions of guard.Put and guard.First answer, said by Frame.putL and Frame.firstL. -/
import Derived.Test.YtjkjcimoeohijaaFrame
import Derived.Test.YtjkjcimoeohijaaPAllx4
import Derived.Test.YtjkjcimoeohijaaPAllx7
import Derived.Test.YtjkjcimoeohijaaPAllx9
namespace Go.Proofs.Ytjkjcimoeohijaa.Pure
open Go.RowKit Go.Proofs.Ytjkjcimoeohijaa.PAll Go.Proofs.YtjkjcimoeohijaaW.PrintWords Go.Proofs.YtjkjcimoeohijaaW.PrintLast Go.Proofs.Ytjkjcimoeohijaa.Fr

theorem fixed_some (n k : Nat) (hn : n < 18446744073709551616) (hk : k ≤ 8) : guard_fixed.f n k = some (ba (Num.fixL n k)) := by
  unfold guard_fixed.f; rw [if_pos (by omega)]; simp [ba]
theorem gsum_some (s : ByteArray) (h : s.size ≤ 9223372036854775807) : guard_Sum.f s = some ((Crc.crc s.data.toList : Nat) : Int) := by
  unfold guard_Sum.f; rw [if_pos h]
theorem gnum_some (s : ByteArray) (h : s.size ≤ 8) : guard_number.f s = some ((Num.numL s.data.toList : Nat) : Int) := by
  unfold guard_number.f; rw [if_pos h]
theorem wrap_u64 {x : Int} (h0 : 0 ≤ x) (h1 : x < 18446744073709551616) : IntKind.u64.wrap x = x := by
  exact IntWalk.u64_in x ⟨h0, by omega⟩
theorem wrap_in {x : Int} (h0 : 0 ≤ x) (h1 : x < 9223372036854775808) : wrap64 x = x := by unfold wrap64; omega

theorem put_some (q e : Nat) (t : ByteArray) (hq : q < 18446744073709551616) (he : e < 18446744073709551616) (ht : t.size ≤ 8192) :
    guard_Put.f q e t = some (ba (putL q e t.data.toList), 0) := by
  have f4 := Num.fixL_length 4 t.size
  have fq := Num.fixL_length 8 q
  have fe := Num.fixL_length 8 e
  have fc := Num.fixL_length 4 (Crc.crc (bodyL q e t.data.toList))
  have hl := list_size t
  have hb := bodyL_length q e t.data.toList
  unfold guard_Put.f
  rw [if_neg (by omega), wrap_u64 (by omega) (by omega)]
  rw [show ((4 : Int)) = ((4 : Nat) : Int) from rfl, show ((8 : Int)) = ((8 : Nat) : Int) from rfl]
  rw [fixed_some _ _ (by omega) (by omega), fixed_some _ _ (by omega) (by omega), fixed_some _ _ (by omega) (by omega)]
  simp only [Option.bind_some]
  rw [if_pos (by simp; omega)]
  have eb : ((ba (Num.fixL t.size 4) ++ ba (Num.fixL q 8)) ++ ba (Num.fixL e 8)) ++ t = ba (bodyL q e t.data.toList) := by
    have e : ∀ a : List UInt8, ba a ++ t = ba (a ++ t.data.toList) := fun a => by rw [← ba_append, ba_of]
    rw [ba_append, ba_append, e]; unfold bodyL; rw [hl]
  rw [if_pos (by rw [ba_append]; simp; omega), if_pos (by rw [ba_append, ba_append]; simp; omega), eb]
  rw [gsum_some (ba (bodyL q e t.data.toList)) (by rw [ba_size]; omega), ba_list]
  rw [Option.bind_some]
  have hc := Crc.crc_lt (bodyL q e t.data.toList)
  rw [wrap_u64 (by omega) (by omega), fixed_some _ _ (by omega) (by omega)]
  rw [Option.bind_some]
  rw [if_pos (by rw [ba_size, ba_size]; omega), ba_append]
  unfold putL
  exact rfl

theorem put_big (q e : Int) (t : ByteArray) (ht : 8192 < t.size) : guard_Put.f q e t = some (⟨#[]⟩, 71) := by
  unfold guard_Put.f
  rw [if_pos (by omega)]

theorem shown_true : syzygylaw07_shown.f = some true := by
  have h : Crc.crc [49, 50, 51, 52, 53, 54, 55, 56, 57] = 3421780262 := by decide +kernel
  have hs : guard_Sum.f (⟨#[49, 50, 51, 52, 53, 54, 55, 56, 57]⟩ : ByteArray) = some ((3421780262 : Nat) : Int) := by
    unfold guard_Sum.f
    rw [if_pos (by decide)]
    rw [show (⟨#[49, 50, 51, 52, 53, 54, 55, 56, 57]⟩ : ByteArray).data.toList = [49, 50, 51, 52, 53, 54, 55, 56, 57] from rfl, h]
  unfold syzygylaw07_shown.f
  rw [hs]
  rfl

theorem empty_iff (s : ByteArray) : s.toList = [] ↔ s.size = 0 := by
  rw [ByteArray.toList_eq]
  rw [← List.length_eq_zero_iff, list_size]

theorem first_some (s : ByteArray) (hs : s.size ≤ 140737488351232) : guard_First.f s = some (asV (firstL s.data.toList)) := by
  have hl := list_size s
  unfold guard_First.f
  by_cases h0 : s.size = 0
  · rw [firstL_empty (by omega), if_pos ((empty_iff s).2 h0)]; rfl
  rw [if_neg (fun h => h0 ((empty_iff s).1 h))]
  by_cases h1 : s.size < 24
  · rw [firstL_short (by omega) (by omega), if_pos (by omega)]; rfl
  rw [if_neg (by omega), if_pos (by omega), if_pos (by omega)]
  rw [gnum_some _ (by rw [ByteArray.size_extract]; omega)]
  simp only [Option.bind_some, extract_list, List.drop_zero]
  by_cases h2 : Num.numL (s.data.toList.take 4) > 8192
  · rw [firstL_cap (by omega) h2, if_pos (by omega)]; rfl
  rw [if_neg (by omega), wrap_in (x := (Num.numL (s.data.toList.take 4) : Int)) (by omega) (by omega), wrap_in (x := 20 + (Num.numL (s.data.toList.take 4) : Int)) (by omega) (by omega), wrap_in (x := 20 + (Num.numL (s.data.toList.take 4) : Int) + 4) (by omega) (by omega)]
  by_cases h3 : s.size < 24 + Num.numL (s.data.toList.take 4)
  · rw [firstL_cut (by omega) h2 (by omega), if_pos (by omega)]; rfl
  rw [if_neg (by omega), if_pos (by omega), if_pos (by omega)]
  rw [gsum_some _ (by rw [ByteArray.size_extract]; omega)]
  simp only [Option.bind_some, extract_list, List.drop_zero]
  rw [if_pos (by omega), if_pos (by omega), gnum_some _ (by rw [ByteArray.size_extract]; omega)]
  simp only [Option.bind_some, extract_list]
  rw [show (20 + (Num.numL (s.data.toList.take 4) : Int)).toNat = 20 + Num.numL (s.data.toList.take 4) from by omega, show (20 + (Num.numL (s.data.toList.take 4) : Int) + 4).toNat = 24 + Num.numL (s.data.toList.take 4) from by omega]
  have hc := Crc.crc_lt (s.data.toList.take (20 + Num.numL (s.data.toList.take 4)))
  rw [wrap_u64 (by omega) (by omega)]
  by_cases h4 : Crc.crc (s.data.toList.take (20 + Num.numL (s.data.toList.take 4))) = Num.numL ((s.data.toList.take (24 + Num.numL (s.data.toList.take 4))).drop (20 + Num.numL (s.data.toList.take 4)))
  rotate_left
  · rw [firstL_sum (by omega) h2 (by omega) h4, if_neg (by omega)]; rfl
  rw [firstL_ok (by omega) h2 (by omega) h4, if_pos (by omega), if_pos (by omega), if_pos (by omega), gnum_some _ (by rw [ByteArray.size_extract]; omega)]
  simp only [Option.bind_some, extract_list]
  rw [if_pos (by omega), if_pos (by omega), gnum_some _ (by rw [ByteArray.size_extract]; omega)]
  simp only [Option.bind_some, extract_list]
  rw [if_pos (by omega), if_pos (by omega)]
  unfold asV
  congr 1
  refine Prod.ext rfl (Prod.ext rfl (Prod.ext ?_ (Prod.ext ?_ rfl)))
  · apply ext_list; simp only [extract_list, ba_list]
  · apply ext_list; simp only [extract_list, ba_list]; rw [← hl, List.take_length]

end Go.Proofs.Ytjkjcimoeohijaa.Pure
