/- The sum and the frame of any text, and which frames any text begins by, are the document's own, or its error: for every frame, text and epoch (texts of more than 9000 and 3000 bytes are let go, as the statement does). -/
import Derived.Test.YtjkjcimoeohijaaRefG
import Derived.Test.YtjkjcimoeohijaaPuts
import Derived.OpenShut
namespace Go.Proofs.Ytjkjcimoeohijaa.Pure
open Go.RowKit Go.Proofs.Ytjkjcimoeohijaa.PAll Go.Proofs.YtjkjcimoeohijaaW.PrintWords Go.Proofs.YtjkjcimoeohijaaW.PrintLast Go.Proofs.Ytjkjcimoeohijaa.Fr

theorem puts_same (q e k : Nat) (t : ByteArray) (hq : q < 18446744073709551616) (he : e < 18446744073709551616) (hk : 9 ≤ k) :
    ∃ a : ByteArray, ∃ x : Int, guard_Put.f q e t = some (a, x) ∧ syzygyref07_Put.f k q e t = some (a, x) := by
  by_cases h : t.size ≤ 8192
  · exact ⟨_, _, put_some q e t hq he h, refput_some q e k hk t h⟩
  · exact ⟨_, _, put_big q e t (by omega), refput_big q e k t (by omega)⟩

theorem GuardTells : ∀ (a0 a1 : Int) (a2 : ByteArray) (a3 : ByteArray) (a4 : Int), (Lit.int .u64 a0).wf = true → (Lit.int .u64 a1).wf = true → a2.size ≤ maxLen → a3.size ≤ 140737488351232 → (Lit.int .u64 a4).wf = true →
    ∃ k, syzygylaw07_GuardTells.f k a0 a1 a2 a3 a4 = some true := by
  intro q e t s ep hq he ht hs hc
  obtain ⟨hq0, hq1⟩ := bounds_u64 hq
  obtain ⟨he0, he1⟩ := bounds_u64 he
  obtain ⟨hc0, hc1⟩ := bounds_u64 hc
  obtain ⟨q, rfl⟩ := Int.eq_ofNat_of_zero_le hq0
  obtain ⟨e, rfl⟩ := Int.eq_ofNat_of_zero_le he0
  obtain ⟨ep, rfl⟩ := Int.eq_ofNat_of_zero_le hc0
  refine ⟨4000 + 1, ?_⟩
  have shut : syzygylaw07_GuardTells.j0 (4000 + 1) s ep true q e t = some true := by
    simp only [syzygylaw07_GuardTells.j0, if_true, shown_true, Option.bind_some]
  unfold syzygylaw07_GuardTells.f
  by_cases h1 : (t.size : Int) > 9000
  · rw [if_pos h1]; exact shut
  rw [if_neg h1]
  by_cases h2 : (s.size : Int) > 3000
  · rw [if_pos h2]; exact shut
  rw [if_neg h2, shown_true, Option.bind_some]
  show syzygylaw07_GuardTells.j0 (4000 + 1) s ep false q e t = some true
  obtain ⟨a, x, hp1, hp2⟩ := puts_same q e 4000 t (by omega) (by omega) (by omega)
  have hG := G_len s.data.toList.length s.data.toList 0 (Nat.le_refl _)
  rw [list_size] at hG
  have hA := allL_len ep (G s.data.toList 0) 0 0
  have hall : guard_All.f s ep = some (toS (allL ep 0 0 (G s.data.toList 0)).1, ((allL ep 0 0 (G s.data.toList 0)).2 : Int)) := by
    unfold guard_All.f
    rw [if_pos ⟨by omega, by omega⟩, Int.toNat_natCast]
  have hall2 := refall_some s (by omega) ep 4000 (by omega)
  have hth := theirs_some (allL ep 0 0 (G s.data.toList 0)).1 (by omega) 4000 (by omega)
  have hsm := same_some (toR (allL ep 0 0 (G s.data.toList 0)).1) (by simp only [toR, List.length_map]; omega) 4000 (by simp only [toR, List.length_map]; omega)
  simp only [syzygylaw07_GuardTells.j0, Bool.false_eq_true, if_false]
  rw [hp1, Option.bind_some, hp2, Option.bind_some, first_some s hs, Option.bind_some, reffirst_some s hs, Option.bind_some, hall, Option.bind_some, hall2, Option.bind_some,
    gsum_some s (by omega), Option.bind_some, refsum_some s (by omega), Option.bind_some, if_pos rfl, if_pos rfl, if_pos rfl, if_pos (by simp), if_pos rfl, if_pos rfl, hth, Option.bind_some, hsm, Option.bind_some, if_pos rfl]
  simp

end Go.Proofs.Ytjkjcimoeohijaa.Pure
