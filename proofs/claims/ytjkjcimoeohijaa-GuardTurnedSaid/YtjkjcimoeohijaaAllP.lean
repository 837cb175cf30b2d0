/- Plain: which frames a text begins by, one behind the other, and which of them All tells. No program in sight. -/
import Derived.Test.YtjkjcimoeohijaaFrame
namespace Go.Proofs.Ytjkjcimoeohijaa.Fr
open Num Crc

/-- a frame with where it ends -/
abbrev F4 := Nat × Nat × Nat × List UInt8
def nextL (s : List UInt8) (a : Nat) : F4 := (a + (24 + (firstL s).2.2.1.length), (firstL s).1, (firstL s).2.1, (firstL s).2.2.1)
def framesL : Nat → List UInt8 → Nat → List F4
  | 0, _, _ => []
  | k + 1, s, a => if (firstL s).2.2.2.2 = 0 then nextL s a :: framesL k (firstL s).2.2.2.1 (a + (24 + (firstL s).2.2.1.length)) else []

theorem first_rest {s : List UInt8} (h : (firstL s).2.2.2.2 = 0) : (firstL s).2.2.2.1 = s.drop (24 + (firstL s).2.2.1.length) ∧ 24 + (firstL s).2.2.1.length ≤ s.length ∧ (firstL s).2.2.1.length ≤ 8192 := by
  rcases hf : firstL s with ⟨q, e, t, r, x⟩
  rw [hf] at h
  dsimp only at h ⊢
  subst h
  obtain ⟨hp, _, _, ht⟩ := put_first hf
  have hl := congrArg List.length hp
  rw [List.length_append, putL_length] at hl
  refine ⟨?_, by omega, ht⟩
  rw [← hp, List.drop_append_of_le_length (by rw [putL_length]; omega), List.drop_eq_nil_of_le (by rw [putL_length]; omega), List.nil_append]

theorem frames_fuel : ∀ (k : Nat) (s : List UInt8) (a : Nat), s.length ≤ k → framesL k s a = framesL s.length s a := by
  intro k
  induction k using Nat.strongRecOn with
  | _ k ih =>
    intro s a h
    cases k with
    | zero => have : s.length = 0 := by omega
              rw [this]
    | succ k =>
      cases hs : s.length with
      | zero =>
        have : (firstL s).2.2.2.2 ≠ 0 := by rw [firstL_empty hs]; simp
        simp only [framesL]; rw [if_neg this]
      | succ m =>
        simp only [framesL]
        by_cases h0 : (firstL s).2.2.2.2 = 0
        · rw [if_pos h0, if_pos h0]
          obtain ⟨hr, hl, _⟩ := first_rest h0
          have hlr : (firstL s).2.2.2.1.length + 24 ≤ s.length := by rw [hr, List.length_drop]; omega
          rw [ih k (by omega) _ _ (by omega), ih m (by omega) _ _ (by omega)]
        · rw [if_neg h0, if_neg h0]

def G (s : List UInt8) (a : Nat) : List F4 := framesL s.length s a
theorem G_ok {s : List UInt8} {a : Nat} (h : (firstL s).2.2.2.2 = 0) : G s a = nextL s a :: G (s.drop (24 + (firstL s).2.2.1.length)) (a + (24 + (firstL s).2.2.1.length)) := by
  obtain ⟨hr, hl, _⟩ := first_rest h
  unfold G
  cases hs : s.length with
  | zero => omega
  | succ m =>
    simp only [framesL]
    rw [if_pos h, hr, frames_fuel m _ _ (by rw [List.length_drop]; omega)]
theorem G_no {s : List UInt8} {a : Nat} (h : (firstL s).2.2.2.2 ≠ 0) : G s a = [] := by
  unfold G
  cases s.length with
  | zero => rfl
  | succ m => simp only [framesL]; rw [if_neg h]

theorem G_len : ∀ (k : Nat) (s : List UInt8) (a : Nat), s.length ≤ k → (G s a).length ≤ s.length := by
  intro k
  induction k using Nat.strongRecOn with
  | _ k ih =>
    intro s a hk
    by_cases h : (firstL s).2.2.2.2 = 0
    · obtain ⟨hr, hl, _⟩ := first_rest h
      rw [G_ok h, List.length_cons]
      have := ih (k - 1) (by omega) (s.drop (24 + (firstL s).2.2.1.length)) (a + (24 + (firstL s).2.2.1.length)) (by rw [List.length_drop]; omega)
      rw [List.length_drop] at this
      omega
    · rw [G_no h]; simp

/-- does the frame come next? -/
def good (ep i : Nat) (x : F4) : Bool := x.2.2.1 == ep && x.2.1 == i + 1
/-- what All tells, the frames told already being i, their end n -/
def allL (ep : Nat) : Nat → Nat → List F4 → List F4 × Nat
  | _, n, [] => ([], n)
  | i, n, x :: l => if good ep i x then (x :: (allL ep (i + 1) x.1 l).1, (allL ep (i + 1) x.1 l).2) else ([], n)
def goods (ep : Nat) : Nat → List F4 → Prop
  | _, [] => True
  | i, x :: l => good ep i x = true ∧ goods ep (i + 1) l
def lastEnd (n : Nat) : List F4 → Nat
  | [] => n
  | x :: l => lastEnd x.1 l

theorem allL_goods (ep : Nat) : ∀ (pre : List F4) (i n : Nat) (rest : List F4), goods ep i pre →
    allL ep i n (pre ++ rest) = (pre ++ (allL ep (i + pre.length) (lastEnd n pre) rest).1, (allL ep (i + pre.length) (lastEnd n pre) rest).2) := by
  intro pre
  induction pre with
  | nil => intro i n rest _; rfl
  | cons x l ih =>
    intro i n rest h
    obtain ⟨h1, h2⟩ := h
    simp only [List.cons_append, allL, h1, if_true, lastEnd, List.length_cons]
    rw [ih (i + 1) x.1 rest h2, show i + 1 + l.length = i + (l.length + 1) from by omega]

theorem goods_snoc (ep : Nat) : ∀ (pre : List F4) (i : Nat) (x : F4), goods ep i pre → good ep (i + pre.length) x = true → goods ep i (pre ++ [x]) := by
  intro pre
  induction pre with
  | nil => intro i x _ h; exact ⟨h, trivial⟩
  | cons y l ih =>
    intro i x h hx
    exact ⟨h.1, ih (i + 1) x h.2 (by rw [show i + 1 + l.length = i + (y :: l).length from by simp; omega]; exact hx)⟩
theorem lastEnd_snoc : ∀ (pre : List F4) (n : Nat) (x : F4), lastEnd n (pre ++ [x]) = x.1 := by
  intro pre
  induction pre with
  | nil => intro n x; rfl
  | cons y l ih => intro n x; exact ih _ _

end Go.Proofs.Ytjkjcimoeohijaa.Fr
