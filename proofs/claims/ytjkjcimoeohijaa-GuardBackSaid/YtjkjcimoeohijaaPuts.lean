/- Plain: frames that were put one behind the other are told one behind the other. No program in sight. -/
import Derived.Test.YtjkjcimoeohijaaAllP
namespace Go.Proofs.Ytjkjcimoeohijaa.Fr
open Num Crc

/-- a frame to be put: number, epoch, text -/
abbrev P3 := Nat × Nat × List UInt8
def P3.ok (p : P3) : Prop := p.1 < 18446744073709551616 ∧ p.2.1 < 18446744073709551616 ∧ p.2.2.length ≤ 8192
def putsL (ps : List P3) : List UInt8 := ps.flatMap fun p => putL p.1 p.2.1 p.2.2
def asF : Nat → List P3 → List F4
  | _, [] => []
  | a, p :: ps => (a + (24 + p.2.2.length), p.1, p.2.1, p.2.2) :: asF (a + (24 + p.2.2.length)) ps
def sizes : List P3 → Nat
  | [] => 0
  | p :: ps => (24 + p.2.2.length) + sizes ps

theorem putsL_length : ∀ ps : List P3, (putsL ps).length = sizes ps := by
  intro ps
  induction ps with
  | nil => rfl
  | cons p ps ih => show (putL p.1 p.2.1 p.2.2 ++ putsL ps).length = _; rw [List.length_append, putL_length, ih]; rfl

theorem G_puts : ∀ (ps : List P3) (rest : List UInt8) (a : Nat), (∀ p ∈ ps, p.ok) → G (putsL ps ++ rest) a = asF a ps ++ G rest (a + sizes ps) := by
  intro ps
  induction ps with
  | nil => intro rest a _; simp [putsL, asF, sizes]
  | cons p ps ih =>
    intro rest a h
    obtain ⟨h1, h2, h3⟩ := h p (by simp)
    have hf := first_put p.1 p.2.1 p.2.2 (putsL ps ++ rest) h1 h2 h3
    have e : putsL (p :: ps) ++ rest = putL p.1 p.2.1 p.2.2 ++ (putsL ps ++ rest) := by
      show (putL p.1 p.2.1 p.2.2 ++ putsL ps) ++ rest = _; rw [List.append_assoc]
    rw [e, G_ok (by rw [hf]), nextL]
    have hd : (putL p.1 p.2.1 p.2.2 ++ (putsL ps ++ rest)).drop (24 + p.2.2.length) = putsL ps ++ rest := by
      rw [List.drop_append_of_le_length (by rw [putL_length]; omega), List.drop_eq_nil_of_le (by rw [putL_length]; omega), List.nil_append]
    simp only [hf, hd]
    rw [ih rest _ (fun q hq => h q (by simp [hq]))]
    simp only [asF, sizes, List.cons_append]
    rw [show a + (24 + p.2.2.length) + sizes ps = a + (24 + p.2.2.length + sizes ps) from by omega]

theorem asF_length : ∀ (ps : List P3) (a : Nat), (asF a ps).length = ps.length := by
  intro ps
  induction ps with
  | nil => intro a; rfl
  | cons p ps ih => intro a; simp [asF, ih]

theorem asF_append : ∀ (ps qs : List P3) (a : Nat), asF a (ps ++ qs) = asF a ps ++ asF (a + sizes ps) qs := by
  intro ps
  induction ps with
  | nil => intro qs a; simp [asF, sizes]
  | cons p ps ih => intro qs a; simp only [List.cons_append, asF, sizes, ih]; rw [show a + (24 + p.2.2.length) + sizes ps = a + (24 + p.2.2.length + sizes ps) from by omega]

theorem asF_last : ∀ (ps : List P3) (a : Nat), lastEnd a (asF a ps) = a + sizes ps := by
  intro ps
  induction ps with
  | nil => intro a; simp [asF, sizes, lastEnd]
  | cons p ps ih => intro a; simp only [asF, lastEnd, sizes, ih]; omega

theorem sizes_append : ∀ (ps qs : List P3), sizes (ps ++ qs) = sizes ps + sizes qs := by
  intro ps
  induction ps with
  | nil => intro qs; simp [sizes]
  | cons p ps ih => intro qs; simp only [List.cons_append, sizes, ih]; omega

theorem allL_len (ep : Nat) : ∀ (xs : List F4) (i n : Nat), (allL ep i n xs).1.length ≤ xs.length := by
  intro xs
  induction xs with
  | nil => intro i n; simp [allL]
  | cons x l ih =>
    intro i n
    simp only [allL]
    split
    · have := ih (i + 1) x.1; simp; omega
    · simp

/-- what stands behind a frame that does not come next counts nothing -/
theorem allL_stuck (ep : Nat) : ∀ (xs ys : List F4) (i n : Nat), (allL ep i n xs).1.length < xs.length → allL ep i n (xs ++ ys) = allL ep i n xs := by
  intro xs
  induction xs with
  | nil => intro ys i n h; simp [allL] at h
  | cons x l ih =>
    intro ys i n h
    simp only [List.cons_append, allL] at h ⊢
    split
    · rename_i hg
      rw [if_pos hg] at h
      rw [ih ys (i + 1) x.1 (by simpa using h)]
    · rfl

theorem goods_of_len (ep : Nat) : ∀ (xs : List F4) (i n : Nat), (allL ep i n xs).1.length = xs.length → goods ep i xs := by
  intro xs
  induction xs with
  | nil => intro i n _; trivial
  | cons x l ih =>
    intro i n h
    simp only [allL] at h
    by_cases hg : good ep i x = true
    · rw [if_pos hg] at h
      exact ⟨hg, ih (i + 1) x.1 (by simpa using h)⟩
    · rw [if_neg hg] at h; simp at h

theorem allL_of_goods (ep : Nat) (xs : List F4) (i n : Nat) (h : goods ep i xs) : allL ep i n xs = (xs, lastEnd n xs) := by
  have := allL_goods ep xs i n [] h
  simpa [allL] using this

end Go.Proofs.Ytjkjcimoeohijaa.Fr
