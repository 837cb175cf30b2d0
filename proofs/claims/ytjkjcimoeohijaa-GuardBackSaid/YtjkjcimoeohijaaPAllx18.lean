/- Laid by a program of this session (px.py), out of the translation and of contracts that the session proved: what each Go function answers, as a plain Lean function, and that its call answers just that. -/
import Derived.Test.YtjkjcimoeohijaaAllW
import Derived.Test.YtjkjcimoeohijaaPAllx0
namespace Go.Proofs.Ytjkjcimoeohijaa.PAll
open Go.RowKit Go.Proofs.YtjkjcimoeohijaaW.PrintWords Go.Proofs.YtjkjcimoeohijaaW.PrintLast Go.Proofs.YtjkjcimoeohijaaW.PrintMore
attribute [local go_sem] max2_int min2_int max_two min_two max_three min_three max_four min_four   -- for this text's walks alone
set_option linter.unusedVariables false
set_option linter.unusedSimpArgs false

def toS (l : List Fr.F4) : List S29 := l.map fun x => ⟨(x.2.1 : Int), (x.2.2.1 : Int), Fr.ba x.2.2.2⟩

theorem reps_toS (w : World) (base : Nat) (ok : Nat → Prop) : ∀ (k : Nat) (l : List Fr.F4), l.length = k → Reps (k29.M w base ok) 3 (toS l) (l.flatMap enc3) := by
  intro k
  induction k with
  | zero => intro l h; simp at h; subst h; exact Reps.none _ _
  | succ k ih =>
    intro l h
    have hne : l ≠ [] := by intro e; subst e; simp at h
    obtain ⟨l', x, rfl⟩ : ∃ l' x, l = l' ++ [x] := ⟨l.dropLast, l.getLast hne, (List.dropLast_concat_getLast hne).symm⟩
    have := (ih l' (by simpa using h)).snoc (k29_mkM w base ok ⟨(x.2.1 : Int), (x.2.2.1 : Int), Fr.ba x.2.2.2⟩) (by rfl)
    simpa [toS, List.flatMap_append, enc3] using this

def guard_All.f (a0 : ByteArray) (a1 : Int) : Option (List S29 × Int) :=
  if a0.size ≤ 1073741824 ∧ 0 ≤ a1 then some (toS (Fr.allL a1.toNat 0 0 (Fr.G a0.data.toList 0)).1, ((Fr.allL a1.toNat 0 0 (Fr.G a0.data.toList 0)).2 : Int)) else none
theorem guard_All.calls (a0 : ByteArray) (a1 : Int) (r1 : List (S29)) (r2 : Int) (w : World) (h : guard_All.f a0 a1 = some (r1, r2)) :
    Calls Try.prog 16 #[.string a0, .int .u64 a1] w fun e w' => ∃ v0_ : Value, e = .returned (.tuple #[v0_, .int .i64 r2]) ∧ Kd.R k29 29 w' w.heap.size (fun _ => True) v0_ r1 ∧ Below w.heap.size w w' := by
  unfold guard_All.f at h
  split at h
  · rename_i hs
    obtain ⟨h0, h1⟩ := hs
    obtain ⟨ep, rfl⟩ := Int.eq_ofNat_of_zero_le h1
    simp only [Option.some.injEq, Prod.mk.injEq, Int.toNat_natCast] at h
    obtain ⟨rfl, rfl⟩ := h
    refine (all_any a0 ep w h0).mono ?_
    rintro e w' ⟨v, rfl, ho, hb⟩
    exact ⟨v, rfl, ⟨fun _ _ => trivial, _, by rw [show (toS (Fr.allL ep 0 0 (Fr.G a0.data.toList 0)).1).length = (Fr.allL ep 0 0 (Fr.G a0.data.toList 0)).1.length from by simp [toS]]; exact ho, reps_toS _ _ _ _ _ rfl⟩, hb⟩
  · exact absurd h (by simp)

end Go.Proofs.Ytjkjcimoeohijaa.PAll
