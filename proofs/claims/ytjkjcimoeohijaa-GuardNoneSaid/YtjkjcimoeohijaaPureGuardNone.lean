/- A text that is cut, or has nothing behind, is told by its error; what is told as a frame, put anew, with the rest behind it, is the text again: for every text (those longer than 3000 bytes are let go, as the statement does). -/
import Derived.Test.YtjkjcimoeohijaaPAllx6
import Derived.Test.YtjkjcimoeohijaaGuardF
namespace Go.Proofs.Ytjkjcimoeohijaa.Pure
open Go.RowKit Go.Proofs.Ytjkjcimoeohijaa.PAll Go.Proofs.YtjkjcimoeohijaaW.PrintWords Go.Proofs.YtjkjcimoeohijaaW.PrintLast Go.Proofs.Ytjkjcimoeohijaa.Fr

theorem GuardNone : syzygylaw07_GuardNone.Pure := by
  intro s hs
  refine ⟨5, ?_⟩
  unfold syzygylaw07_GuardNone.f
  rw [shown_true]
  by_cases h : (s.size : Int) > 3000
  · rw [if_pos h]
    simp only [syzygylaw07_GuardNone.j0, if_true, shown_true, Option.bind_some]
  rw [if_neg h]
  simp only [Option.bind_some, Bool.not_true, syzygylaw07_GuardNone.j0, Bool.false_eq_true, if_false]
  rw [first_some s hs, Option.bind_some]
  have hl := list_size s
  by_cases h0 : s.size = 0
  · rw [if_pos (by omega), firstL_empty (by omega)]; rfl
  rw [if_neg (by omega)]
  by_cases h1 : s.size < 24
  · rw [if_pos (by omega), firstL_short (by omega) (by omega)]; rfl
  rw [if_neg (by omega)]
  have hn := @first_none s.data.toList
  have hp := fun q e t r => @put_first s.data.toList q e t r
  rcases hf : firstL s.data.toList with ⟨q, e, t, r, x⟩
  rw [hf] at hn hp
  dsimp only at hn
  by_cases hx : x = 0
  · subst hx
    obtain ⟨h2, hq, he, ht⟩ := hp q e t r rfl
    rw [if_pos (by rfl)]
    show ((guard_Put.f (q : Int) (e : Int) (ba t)).bind _) = _
    rw [put_some q e (ba t) hq he (by rw [ba_size]; omega), Option.bind_some, if_pos rfl, if_pos ?_]
    · show some ((ba (putL q e (ba t).data.toList) ++ ba r).toList == s.toList) = some true
      rw [ba_list, ba_append, h2, ba_of]; simp
    · show (ba (putL q e (ba t).data.toList)).size + (ba r).size ≤ _
      have : (putL q e t ++ r).length = s.size := by rw [h2, hl]
      rw [List.length_append] at this
      rw [ba_list, ba_size, ba_size]; omega
  · obtain ⟨rfl, rfl, rfl, rfl⟩ := hn hx
    rw [if_neg (by show ¬ (x : Int) = 0; omega), if_pos ?_]
    · show some ((ba []).toList == []) = some true
      rw [(empty_iff (ba [])).2 rfl]; rfl
    · show ((0 : Int) == 0 && ((0 : Int) == 0 && ((ba []).toList == ([] : List UInt8)))) = true
      rw [(empty_iff (ba [])).2 rfl]; rfl

end Go.Proofs.Ytjkjcimoeohijaa.Pure
