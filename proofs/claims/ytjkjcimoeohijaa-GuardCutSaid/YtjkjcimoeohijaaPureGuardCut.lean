/- A beginning of a frame is none, and with more behind it it is the same frame: for every frame, every text behind it and every cut (frames and texts of more than 300 bytes are let go, as the statement does). -/
import Derived.Test.YtjkjcimoeohijaaPAllx6
import Derived.Test.YtjkjcimoeohijaaGuardF
import Derived.OpenShut
namespace Go.Proofs.Ytjkjcimoeohijaa.Pure
open Go.RowKit Go.Proofs.Ytjkjcimoeohijaa.PAll Go.Proofs.YtjkjcimoeohijaaW.PrintWords Go.Proofs.YtjkjcimoeohijaaW.PrintLast Go.Proofs.Ytjkjcimoeohijaa.Fr

theorem first_prefix (q e : Nat) (t : List UInt8) (ht : t.length ≤ 8192) (k : Nat) (hk : k < 24 + t.length) (h0 : k ≠ 0) : firstL ((putL q e t).take k) = (0, 0, [], [], 60) := by
  have hp := putL_length q e t
  have hl : ((putL q e t).take k).length = k := by rw [List.length_take]; omega
  by_cases h24 : k < 24
  · exact firstL_short (by omega) (by omega)
  · have en : Num.numL (((putL q e t).take k).take 4) = t.length := by
      have h4 := Num.fixL_length 4 t.length
      have : ((putL q e t).take k).take 4 = Num.fixL t.length 4 := by
        rw [List.take_take, Nat.min_eq_left (by omega)]
        simp only [putL, bodyL, List.append_assoc]
        rw [List.take_append_of_le_length (by omega), List.take_of_length_le (by omega)]
      rw [this, Num.numL_fixL]; exact Nat.mod_eq_of_lt (by omega)
    exact firstL_cut (by omega) (by rw [en]; omega) (by rw [en]; omega)

theorem GuardCut : ∀ (a0 a1 : Int) (a2 : ByteArray) (a3 : ByteArray) (a4 : Int), (Lit.int .u64 a0).wf = true → (Lit.int .u64 a1).wf = true → a2.size ≤ maxLen → a3.size ≤ 140737488351232 → (Lit.int .u16 a4).wf = true →
    ∃ k, syzygylaw07_GuardCut.f k a0 a1 a2 a3 a4 = some true := by
  intro q e t more cut hq he ht hm hc
  obtain ⟨hq0, hq1⟩ := bounds_u64 hq
  obtain ⟨he0, he1⟩ := bounds_u64 he
  obtain ⟨hc0, hc1⟩ := bounds_u16 hc
  obtain ⟨q, rfl⟩ := Int.eq_ofNat_of_zero_le hq0
  obtain ⟨e, rfl⟩ := Int.eq_ofNat_of_zero_le he0
  obtain ⟨c, rfl⟩ := Int.eq_ofNat_of_zero_le hc0
  refine ⟨9, ?_⟩
  have shut : syzygylaw07_GuardCut.j0 9 more c true q e t = some true := by
    show syzygylaw07_GuardCut.j0 (8 + 1) more c true q e t = some true
    simp only [syzygylaw07_GuardCut.j0, if_true, shown_true, Option.bind_some]
  unfold syzygylaw07_GuardCut.f
  by_cases h1 : (t.size : Int) > 300
  · rw [if_pos h1]; exact shut
  rw [if_neg h1]
  by_cases h2 : (more.size : Int) > 300
  · rw [if_pos h2]; exact shut
  rw [if_neg h2, shown_true, Option.bind_some]
  show syzygylaw07_GuardCut.j0 (8 + 1) more c false q e t = some true
  simp only [syzygylaw07_GuardCut.j0, Bool.false_eq_true, if_false]
  have hl := list_size t
  have hput := put_some q e t (by omega) (by omega) (by omega)
  have hpl := putL_length q e t.data.toList
  rw [hput, Option.bind_some]
  dsimp only
  rw [if_pos rfl, if_pos (by rw [ba_size]; omega)]
  have hf1 : guard_First.f (ba (putL q e t.data.toList) ++ more) = some ((q : Int), (e : Int), t, more, 0) := by
    have : ba (putL q e t.data.toList) ++ more = ba (putL q e t.data.toList ++ more.data.toList) := by rw [← ba_append, ba_of]
    rw [this, first_some _ (by rw [ba_size, List.length_append, list_size]; omega), ba_list, first_put q e _ _ (by omega) (by omega) (by omega)]
    simp only [asV, ba_of]; rfl
  rw [hf1, Option.bind_some, ba_size]
  dsimp only
  rw [if_neg (by omega), wrap_in (x := (c : Int)) (by omega) (by omega)]
  obtain ⟨m, hmm, hmlt⟩ : ∃ m : Nat, Int.tmod (c : Int) ((putL q e t.data.toList).length : Int) = (m : Int) ∧ m < (putL q e t.data.toList).length :=
    ⟨c % (putL q e t.data.toList).length, by rw [Int.tmod_eq_emod_of_nonneg (by omega)]; rfl, Nat.mod_lt _ (by omega)⟩
  rw [hmm, if_pos (by omega), if_pos (by omega)]
  have hf2 : guard_First.f ((ba (putL q e t.data.toList)).extract 0 (m : Int).toNat) = some (asV (firstL ((putL q e t.data.toList).take m))) := by
    rw [first_some _ (by rw [ByteArray.size_extract, ba_size]; omega), extract_list, ba_list, List.drop_zero, Int.toNat_natCast]
  rw [hf2, Option.bind_some]
  have e1 : ((q : Int) == (q : Int) && ((e : Int) == (e : Int) && (t.toList == t.toList))) = true := by simp
  by_cases h0 : m = 0
  · subst h0
    rw [if_pos (by rfl), if_pos rfl, if_pos e1, if_pos rfl, List.take_zero, firstL_empty rfl]
    rfl
  · rw [if_neg (by omega), if_pos rfl, if_pos e1, if_pos rfl, first_prefix q e _ (by omega) m (by omega) h0]
    rfl

end Go.Proofs.Ytjkjcimoeohijaa.Pure
