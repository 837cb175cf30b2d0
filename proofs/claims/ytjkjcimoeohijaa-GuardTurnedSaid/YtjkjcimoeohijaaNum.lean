/- Plain: numbers in big-endian bytes. No program in sight. -/
namespace Go.Proofs.Ytjkjcimoeohijaa.Num

def fixL (n : Nat) : Nat → List UInt8
  | 0 => []
  | k + 1 => fixL (n / 256) k ++ [UInt8.ofNat n]
def numF (n : Nat) (l : List UInt8) : Nat := l.foldl (fun n c => n * 256 + c.toNat) n
def numL (l : List UInt8) : Nat := numF 0 l

theorem fixL_length (k : Nat) : ∀ n, (fixL n k).length = k := by
  induction k with
  | zero => intro n; rfl
  | succ k ih => intro n; simp [fixL, ih]

theorem numF_snoc (n : Nat) (l : List UInt8) (c : UInt8) : numF n (l ++ [c]) = numF n l * 256 + c.toNat := by
  unfold numF; rw [List.foldl_append]; rfl

theorem numF_lt (l : List UInt8) : ∀ {n m : Nat}, n < 256 ^ m → numF n l < 256 ^ (m + l.length) := by
  induction l with
  | nil => intro n m h; exact h
  | cons c l ih =>
    intro n m h
    have := c.toNat_lt
    have h2 : n * 256 + c.toNat < 256 ^ (m + 1) := by rw [Nat.pow_succ]; omega
    have := ih h2
    show numF (n * 256 + c.toNat) l < _
    rw [show m + (c :: l).length = m + 1 + l.length from by simp; omega]
    exact this

theorem numL_lt (l : List UInt8) : numL l < 256 ^ l.length := by
  have := numF_lt l (n := 0) (m := 0) (by decide)
  simpa [numL] using this

theorem numL_lt64 {l : List UInt8} (h : l.length ≤ 8) : numL l < 18446744073709551616 := by
  have h1 := numL_lt l
  have h2 : 256 ^ l.length ≤ 256 ^ 8 := Nat.pow_le_pow_right (by omega) h
  omega

theorem numL_fixL (k : Nat) : ∀ n, numL (fixL n k) = n % 256 ^ k := by
  induction k with
  | zero => intro n; simp [fixL, numL, numF, Nat.mod_one]
  | succ k ih =>
    intro n
    show numF 0 (fixL (n / 256) k ++ [UInt8.ofNat n]) = _
    rw [numF_snoc, show numF 0 (fixL (n / 256) k) = numL (fixL (n / 256) k) from rfl, ih]
    rw [show (UInt8.ofNat n).toNat = n % 256 from by simp, Nat.pow_succ, Nat.mul_comm (256 ^ k) 256, Nat.mod_mul]
    omega

theorem fixL_numL (l : List UInt8) : ∀ k, l.length = k → fixL (numL l) k = l := by
  intro k
  induction k generalizing l with
  | zero => intro h; simp at h; subst h; rfl
  | succ k ih =>
    intro h
    have hne : l ≠ [] := by intro e; subst e; simp at h
    obtain ⟨l', c, rfl⟩ : ∃ l' c, l = l' ++ [c] := ⟨l.dropLast, l.getLast hne, (List.dropLast_concat_getLast hne).symm⟩
    have hl : l'.length = k := by simpa using h
    have hc := c.toNat_lt
    rw [show numL (l' ++ [c]) = numL l' * 256 + c.toNat from numF_snoc 0 l' c]
    show fixL ((numL l' * 256 + c.toNat) / 256) k ++ [UInt8.ofNat (numL l' * 256 + c.toNat)] = _
    rw [show (numL l' * 256 + c.toNat) / 256 = numL l' from by omega, ih l' hl]
    congr 1
    congr 1
    apply UInt8.toNat_inj.1
    simp

/-- the bytes of the block, when the lowest j of k are written -/
def part (n k j : Nat) : List UInt8 := List.replicate (k - j) 0 ++ (fixL n k).drop (k - j)

theorem fixL_get (k : Nat) : ∀ n i, i < k → (fixL n k)[i]? = some (UInt8.ofNat (n / 256 ^ (k - 1 - i))) := by
  induction k with
  | zero => intro n i h; omega
  | succ k ih =>
    intro n i h
    show (fixL (n / 256) k ++ [UInt8.ofNat n])[i]? = _
    by_cases hi : i < k
    · rw [List.getElem?_append_left (by rw [fixL_length]; exact hi), ih _ _ hi]
      rw [Nat.div_div_eq_div_mul, ← Nat.pow_succ']
      rw [show k + 1 - 1 - i = (k - 1 - i).succ from by omega]
    · obtain rfl : i = k := by omega
      rw [List.getElem?_append_right (by rw [fixL_length]; omega)]
      simp [fixL_length]

theorem part_length (n k j : Nat) (h : j ≤ k) : (part n k j).length = k := by
  unfold part; simp only [List.length_append, List.length_replicate, List.length_drop, fixL_length]; omega

theorem part_zero (n k : Nat) : part n k 0 = List.replicate k 0 := by
  unfold part; simp [fixL_length]

theorem part_full (n k : Nat) : part n k k = fixL n k := by
  unfold part; simp

theorem part_set (n k j : Nat) (h : j < k) : (part n k j).set (k - 1 - j) (UInt8.ofNat (n / 256 ^ j)) = part n k (j + 1) := by
  apply List.ext_getElem?
  intro i
  unfold part
  rw [List.getElem?_set]
  by_cases hi : k - 1 - j = i
  · subst hi
    rw [if_pos rfl, if_pos (by simp [fixL_length]; omega)]
    rw [List.getElem?_append_right (by simp; omega), List.getElem?_drop, fixL_get _ _ _ (by simp; omega)]
    simp only [List.length_replicate]
    rw [show k - 1 - (k - (j + 1) + (k - 1 - j - (k - (j + 1)))) = j from by omega]
  · rw [if_neg hi]
    by_cases h2 : i < k - (j + 1)
    · rw [List.getElem?_append_left (by simp; omega), List.getElem?_append_left (by simp; omega)]
      rw [List.getElem?_replicate, List.getElem?_replicate, if_pos (by omega), if_pos (by omega)]
    · rw [List.getElem?_append_right (by simp; omega), List.getElem?_append_right (by simp; omega), List.getElem?_drop, List.getElem?_drop]
      simp only [List.length_replicate]
      congr 1; omega

end Go.Proofs.Ytjkjcimoeohijaa.Num
