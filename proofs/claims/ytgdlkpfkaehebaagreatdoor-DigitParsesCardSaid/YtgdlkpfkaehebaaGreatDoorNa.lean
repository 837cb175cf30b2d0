/- Plain: rows of digits added and multiplied by hand, with a carry. No program in sight. -/
import Derived.Test.YtgdlkpfkaehebaaGreatDoorNt
namespace Go.Proofs.YtgdlkpfkaehebaaGreatDoor.Nt

theorem val_unb (l : List Nat) : val l = unb 18446744073709551616 l := by
  induction l with
  | nil => rfl
  | cons x l ih => simp only [val, unb, ih]
def atL (l : List Nat) (i : Nat) : Nat := l.getD i 0
theorem unb_drop_at (b : Nat) (l : List Nat) (i : Nat) : unb b (l.drop i) = atL l i + b * unb b (l.drop (i + 1)) := by
  unfold atL
  rw [List.getD_eq_getElem?_getD]
  by_cases h : i < l.length
  · rw [List.drop_eq_getElem_cons h, List.getElem?_eq_getElem h]; rfl
  · rw [List.drop_eq_nil_of_le (by omega), List.drop_eq_nil_of_le (by omega), List.getElem?_eq_none (by omega)]; simp [unb]
theorem unb_lt {b : Nat} {l : List Nat} (h : ∀ x ∈ l, x < b) : unb b l < b ^ l.length := by
  induction l with
  | nil => simp [unb]
  | cons x l ih =>
    have hl := ih (fun y hy => h y (List.mem_cons_of_mem _ hy))
    have hx := h x (List.mem_cons_self ..)
    simp only [unb, List.length_cons, Nat.pow_succ]
    have : b * unb b l + b ≤ b * b ^ l.length := by rw [← Nat.mul_succ]; exact Nat.mul_le_mul_left _ hl
    rw [Nat.mul_comm (b ^ l.length) b]
    omega
theorem unb_zeros (b n : Nat) : unb b (List.replicate n 0) = 0 := by
  induction n with
  | zero => rfl
  | succ n ih => simp [List.replicate_succ, unb, ih]
theorem atL_lt {b : Nat} (hb : 0 < b) {l : List Nat} (h : ∀ x ∈ l, x < b) (i : Nat) : atL l i < b := by
  unfold atL
  rw [List.getD_eq_getElem?_getD]
  cases hx : l[i]? with
  | none => simpa using hb
  | some x => exact h x (List.mem_of_getElem? hx)
/-- one digit is written -/
theorem unb_set (b : Nat) : ∀ (l : List Nat) (i y : Nat), i < l.length → unb b (l.set i y) + b ^ i * atL l i = unb b l + b ^ i * y := by
  intro l
  induction l with
  | nil => intro i y h; simp at h
  | cons x l ih =>
    intro i y h
    cases i with
    | zero => simp [unb, atL]; omega
    | succ i =>
      have := ih i y (by simpa using h)
      have e : atL (x :: l) (i + 1) = atL l i := by simp [atL]
      rw [e, List.set_cons_succ]
      simp only [unb, Nat.pow_succ]
      rw [Nat.mul_comm (b ^ i) b, Nat.mul_assoc, Nat.mul_assoc, Nat.add_assoc, Nat.add_assoc, ← Nat.mul_add, ← Nat.mul_add, this]
theorem atL_high {b : Nat} (hb : 1 ≤ b) {l : List Nat} {j : Nat} (h : unb b l < b ^ j) {i : Nat} (hi : j ≤ i) : atL l i = 0 := by
  have h1 : ∀ (i : Nat) (l : List Nat), b ^ i * atL l i ≤ unb b l := by
    intro i
    induction i with
    | zero =>
      intro l
      cases l with
      | nil => simp [atL]
      | cons x l => simp [atL, unb]
    | succ i ih =>
      intro l
      cases l with
      | nil => simp [atL]
      | cons x l =>
        have := Nat.mul_le_mul_left b (ih l)
        have e : atL (x :: l) (i + 1) = atL l i := by simp [atL]
        rw [e, Nat.pow_succ, Nat.mul_comm (b ^ i) b, Nat.mul_assoc]
        simp only [unb]
        omega
  rcases Nat.eq_zero_or_pos (atL l i) with h0 | h0
  · exact h0
  · exfalso
    have h2 := h1 i l
    have h3 : b ^ j ≤ b ^ i := Nat.pow_le_pow_right hb hi
    have h4 : b ^ i * 1 ≤ b ^ i * atL l i := Nat.mul_le_mul_left _ h0
    omega

/-! ### halves of limbs -/
def halves : List Nat → List Nat
  | [] => []
  | x :: l => x % 4294967296 :: x / 4294967296 :: halves l
theorem unb_halves (l : List Nat) : unb 4294967296 (halves l) = val l := by
  induction l with
  | nil => rfl
  | cons x l ih =>
    simp only [halves, unb, val, ih]
    omega
theorem halves_lt {l : List Nat} (h : Lim l) : ∀ x ∈ halves l, x < 4294967296 := by
  induction l with
  | nil => intro x hx; cases hx
  | cons y l ih =>
    intro x hx
    have hy := h y (List.mem_cons_self ..)
    simp only [halves, List.mem_cons] at hx
    rcases hx with rfl | rfl | hx
    · omega
    · omega
    · exact ih (fun z hz => h z (List.mem_cons_of_mem _ hz)) x hx
theorem halves_len (l : List Nat) : (halves l).length = 2 * l.length := by
  induction l with
  | nil => rfl
  | cons x l ih => simp only [halves, List.length_cons, ih]; omega
theorem halves_append (l m : List Nat) : halves (l ++ m) = halves l ++ halves m := by
  induction l with
  | nil => rfl
  | cons x l ih => simp [halves, ih]
def wholeL : List Nat → List Nat
  | [] => []
  | [a] => [a]
  | a :: b :: l => (a + b * 4294967296) :: wholeL l
theorem val_whole : ∀ (n : Nat) (d : List Nat), d.length ≤ n → val (wholeL d) = unb 4294967296 d := by
  intro n
  induction n with
  | zero => intro d hd; rw [List.eq_nil_of_length_eq_zero (by omega : d.length = 0)]; rfl
  | succ n ih =>
    intro d hd
    match d with
    | [] => rfl
    | [a] => simp [wholeL, val, unb]
    | a :: b :: l =>
      simp only [wholeL, val, unb]
      rw [ih l (by simp at hd; omega)]
      omega
theorem whole_lim : ∀ (n : Nat) (d : List Nat), d.length ≤ n → (∀ x ∈ d, x < 4294967296) → Lim (wholeL d) := by
  intro n
  induction n with
  | zero => intro d hd _; rw [List.eq_nil_of_length_eq_zero (by omega : d.length = 0)]; intro x hx; cases hx
  | succ n ih =>
    intro d hd h
    match d with
    | [] => intro x hx; cases hx
    | [a] =>
      intro x hx
      simp only [wholeL, List.mem_singleton] at hx
      have := h a (List.mem_cons_self ..)
      omega
    | a :: b :: l =>
      intro x hx
      simp only [wholeL, List.mem_cons] at hx
      have h1 := h a (List.mem_cons_self ..)
      have h2 := h b (List.mem_cons_of_mem _ (List.mem_cons_self ..))
      rcases hx with rfl | hx
      · omega
      · exact ih l (by simp at hd; omega) (fun z hz => h z (List.mem_cons_of_mem _ (List.mem_cons_of_mem _ hz))) x hx
theorem trim_whole {d : List Nat} (h : ∀ x ∈ d, x < 4294967296) : trimF (wholeL d) = ofN (unb 4294967296 d) := by
  rw [← ofN_val (whole_lim d.length d (Nat.le_refl _) h), val_whole d.length d (Nat.le_refl _)]

/-! ### adding with a carry -/
/-- a step of the sum of two rows, digit by digit -/
theorem add_step {b : Nat} (x y out : List Nat) (i carry T : Nat) (hl : out.length = i) (h : unb b out + b ^ i * (carry + unb b (x.drop i) + unb b (y.drop i)) = T) :
    unb b (out ++ [(atL x i + atL y i + carry) % b]) + b ^ (i + 1) * ((atL x i + atL y i + carry) / b + unb b (x.drop (i + 1)) + unb b (y.drop (i + 1))) = T := by
  rw [unb_append, hl, ← h, unb_drop_at b x i, unb_drop_at b y i]
  simp only [unb, Nat.mul_zero, Nat.add_zero, Nat.pow_succ]
  have hd := Nat.mod_add_div (atL x i + atL y i + carry) b
  generalize (atL x i + atL y i + carry) % b = r at *
  generalize (atL x i + atL y i + carry) / b = q at *
  generalize unb b (x.drop (i + 1)) = X at *
  generalize unb b (y.drop (i + 1)) = Y at *
  have e : carry + (atL x i + b * X) + (atL y i + b * Y) = r + b * (q + X + Y) := by
    rw [Nat.mul_add, Nat.mul_add]; omega
  rw [e, Nat.mul_add (b ^ i), Nat.mul_assoc, Nat.add_assoc]
/-- a step in place: something is put to one digit, with the carry -/
theorem set_step (b : Nat) (l : List Nat) (p x carry : Nat) (hp : p < l.length) :
    unb b (l.set p ((atL l p + x + carry) % b)) + b ^ (p + 1) * ((atL l p + x + carry) / b) = unb b l + b ^ p * (x + carry) := by
  have h := unb_set b l p ((atL l p + x + carry) % b) hp
  have hd := Nat.mod_add_div (atL l p + x + carry) b
  generalize (atL l p + x + carry) % b = r at *
  generalize (atL l p + x + carry) / b = q at *
  have e : b ^ p * (atL l p + x + carry) = b ^ p * r + b ^ (p + 1) * q := by
    rw [← hd, Nat.mul_add, Nat.pow_succ, Nat.mul_assoc]
  have e2 : b ^ p * (atL l p + x + carry) = b ^ p * atL l p + b ^ p * (x + carry) := by rw [← Nat.mul_add, Nat.add_assoc]
  omega
theorem set_lt {b : Nat} {l : List Nat} (h : ∀ x ∈ l, x < b) (p y : Nat) (hy : y < b) : ∀ x ∈ l.set p y, x < b := by
  intro x hx
  rcases List.mem_or_eq_of_mem_set hx with h1 | h1
  · exact h x h1
  · rw [h1]; exact hy
theorem unb_snoc_zero (b : Nat) (l : List Nat) : unb b (l ++ [0]) = unb b l := by rw [unb_append]; simp [unb]

/-- a row times a limb, with a carry -/
def rowL (x : Nat) : Nat → List Nat → List Nat
  | c, [] => [c]
  | c, y :: l => (x * y + c) % 18446744073709551616 :: rowL x ((x * y + c) / 18446744073709551616) l
theorem val_row (x : Nat) : ∀ (l : List Nat) (c : Nat), val (rowL x c l) = x * val l + c := by
  intro l
  induction l with
  | nil => intro c; simp [rowL, val]
  | cons y l ih =>
    intro c
    simp only [rowL, val, ih]
    have hd := Nat.mod_add_div (x * y + c) 18446744073709551616
    rw [Nat.mul_add, Nat.mul_add, ← Nat.mul_assoc x, Nat.mul_comm x 18446744073709551616, Nat.mul_assoc 18446744073709551616]
    omega
theorem row_len (x : Nat) : ∀ (l : List Nat) (c : Nat), (rowL x c l).length = l.length + 1 := by
  intro l
  induction l with
  | nil => intro c; rfl
  | cons y l ih => intro c; simp [rowL, ih]
theorem carry_lt {x y c : Nat} (hx : x < 18446744073709551616) (hy : y < 18446744073709551616) (hc : c < 18446744073709551616) : (x * y + c) / 18446744073709551616 < 18446744073709551616 := by
  rw [Nat.div_lt_iff_lt_mul (by omega)]
  have h1 : x * y ≤ 18446744073709551615 * 18446744073709551615 := Nat.mul_le_mul (by omega) (by omega)
  omega
theorem row_lim {x : Nat} (hx : x < 18446744073709551616) : ∀ (l : List Nat) (c : Nat), Lim l → c < 18446744073709551616 → Lim (rowL x c l) := by
  intro l
  induction l with
  | nil => intro c _ hc y hy; simp [rowL] at hy; omega
  | cons z l ih =>
    intro c hl hc y hy
    have hz := hl z (List.mem_cons_self ..)
    simp only [rowL, List.mem_cons] at hy
    rcases hy with rfl | hy
    · exact Nat.mod_lt _ (by omega)
    · exact ih _ (fun w hw => hl w (List.mem_cons_of_mem _ hw)) (carry_lt hx hz hc) y hy
/-- the sum of rows, each a limb further -/
def sumV : List (List Nat) → Nat
  | [] => 0
  | r :: l => val r + 18446744073709551616 * sumV l
theorem sum_rows (b : List Nat) : ∀ (a : List Nat), sumV (a.map fun x => rowL x 0 b) = val a * val b := by
  intro a
  induction a with
  | nil => simp [sumV, val]
  | cons x a ih =>
    simp only [List.map_cons, sumV, ih, val_row, val, Nat.add_zero]
    rw [Nat.add_mul, Nat.mul_assoc]
end Go.Proofs.YtgdlkpfkaehebaaGreatDoor.Nt
