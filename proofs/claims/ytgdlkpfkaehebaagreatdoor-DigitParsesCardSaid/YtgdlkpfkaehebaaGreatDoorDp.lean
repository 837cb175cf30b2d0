/- The walks of DigitBack and DigitZeros. -/
import Derived.Test.YtgdlkpfkaehebaaGreatDoorDo
import Derived.Test.YtgdlkpfkaehebaaGreatDoorPz
set_option linter.unusedVariables false
set_option linter.unusedSimpArgs false
namespace Go.Proofs.YtgdlkpfkaehebaaGreatDoor.Dp
open Go Go.RowKit Go.Proofs.YtgdlkpfkaehebaaGreatDoorW.PrintWords Go.Proofs.YtgdlkpfkaehebaaGreatDoorW.PrintLast Go.Proofs.YtgdlkpfkaehebaaGreatDoorW.PrintMore
open Nt Lm Bs Pr Ra Do Fr Pz

theorem text_ne (u : Nat) : text u ≠ [] := by
  unfold text
  split
  · simp
  · exact decT_ne (by omega)
theorem ok_text (u : Nat) : okS (text u) = true := by
  have h1 : (text u).isEmpty = false := by simpa using text_ne u
  unfold okS
  rw [h1, text_digs]
  by_cases h : 1 < (text u).length
  · have := text_head h
    have e : ((text u).head? == some 48) = false := by simpa using this
    simp [e]
  · simp [h]
theorem parse_text {u : Nat} (h : u < B8) : parseE (text u) = 0 ∧ parseL (text u) = ofN u := by
  have hlen := text_small h
  obtain ⟨h1, _⟩ := chunks_spec _ (text u) rfl (text_digs u)
  rw [decV_text] at h1
  unfold parseE parseL
  rw [if_neg (by rw [ok_text]; simp), if_neg (by omega), if_neg (by rw [ok_text]; simp), if_neg (by omega)]
  unfold fromE fromL
  rw [h1, if_pos h, if_pos h]
  exact ⟨rfl, rfl⟩
theorem from_digs {b u : Nat} (hb : 2 ≤ b) (h : u < B8) : fromE b (digs b u) = 0 ∧ fromL b (digs b u) = ofN u := by
  unfold fromE fromL
  rw [unb_digs hb, if_pos h, if_pos h]
  exact ⟨rfl, rfl⟩
theorem val_lt8 {l : List Nat} (hm : l.length ≤ 8) (hl : Lim l) : val l < B8 := Nat.lt_of_lt_of_le (val_lt hl) (Nat.pow_le_pow_right (by omega) hm)

end Go.Proofs.YtgdlkpfkaehebaaGreatDoor.Dp
