/- Plain: naturals as rows of limbs, their digits to any base, and their decimal texts. No program in sight. -/
namespace Go.Proofs.YtgdlkpfkaehebaaGreatDoor.Nt

/-- what a row of limbs comes to -/
def val : List Nat → Nat
  | [] => 0
  | x :: l => x + 18446744073709551616 * val l
def Lim (l : List Nat) : Prop := ∀ x ∈ l, x < 18446744073709551616
/-- the digits of v to the base b, the lowest one first -/
def digs (b : Nat) (v : Nat) : List Nat := if _h : 2 ≤ b ∧ 0 < v then v % b :: digs b (v / b) else []
termination_by v
decreasing_by exact Nat.div_lt_self _h.2 _h.1
theorem digs_pos {b v : Nat} (hb : 2 ≤ b) (hv : 0 < v) : digs b v = v % b :: digs b (v / b) := by rw [digs, dif_pos ⟨hb, hv⟩]
theorem digs_zero (b : Nat) : digs b 0 = [] := by rw [digs, dif_neg (by simp)]
/-- a row without zeros at its end -/
def trimF : List Nat → List Nat
  | [] => []
  | x :: l => if x = 0 ∧ trimF l = [] then [] else x :: trimF l
def ofN (v : Nat) : List Nat := digs 18446744073709551616 v

theorem trimF_zero (l : List Nat) : trimF (l ++ [0]) = trimF l := by
  induction l with
  | nil => rfl
  | cons x l ih => simp only [List.cons_append, trimF, ih]
theorem trimF_last (l : List Nat) {x : Nat} (hx : x ≠ 0) : trimF (l ++ [x]) = l ++ [x] := by
  induction l with
  | nil => simp [trimF, hx]
  | cons y l ih => simp only [List.cons_append, trimF, ih]; simp
theorem trimF_lim {l : List Nat} (h : Lim l) : Lim (trimF l) := by
  induction l with
  | nil => exact h
  | cons x l ih =>
    simp only [trimF]
    have hl : Lim l := fun y hy => h y (List.mem_cons_of_mem _ hy)
    split
    · intro y hy; cases hy
    · intro y hy
      rcases List.mem_cons.1 hy with rfl | hy
      · exact h _ (List.mem_cons_self ..)
      · exact ih hl y hy
theorem trimF_len (l : List Nat) : (trimF l).length ≤ l.length := by
  induction l with
  | nil => exact Nat.le_refl _
  | cons x l ih =>
    simp only [trimF]
    split
    · simp
    · simp only [List.length_cons]; omega
theorem val_trimF (l : List Nat) : val (trimF l) = val l := by
  induction l with
  | nil => rfl
  | cons x l ih =>
    simp only [trimF]
    split
    · rename_i h
      rw [h.2] at ih
      simp only [val] at ih ⊢
      omega
    · simp only [val, ih]
theorem val_zero_trim {l : List Nat} (h : val l = 0) : trimF l = [] := by
  induction l with
  | nil => rfl
  | cons x l ih =>
    simp only [val] at h
    have h1 : val l = 0 := by omega
    simp only [trimF]
    rw [if_pos ⟨by omega, ih h1⟩]
theorem trim_val_zero {l : List Nat} (h : trimF l = []) : val l = 0 := by rw [← val_trimF, h]; rfl
theorem ofN_val {l : List Nat} (h : Lim l) : ofN (val l) = trimF l := by
  induction l with
  | nil => exact digs_zero _
  | cons x l ih =>
    have hl : Lim l := fun y hy => h y (List.mem_cons_of_mem _ hy)
    have hx := h x (List.mem_cons_self ..)
    have ih := ih hl
    unfold ofN at ih ⊢
    simp only [val, trimF]
    by_cases h0 : x + 18446744073709551616 * val l = 0
    · have h1 : val l = 0 := by omega
      rw [h0, digs_zero, if_pos ⟨by omega, val_zero_trim h1⟩]
    · rw [digs_pos (by omega) (by omega), show (x + 18446744073709551616 * val l) % 18446744073709551616 = x by omega, show (x + 18446744073709551616 * val l) / 18446744073709551616 = val l by omega, ih]
      rw [if_neg]
      rintro ⟨rfl, h2⟩
      have := trim_val_zero h2
      omega
theorem digs_lt {b : Nat} (hb : 2 ≤ b) : ∀ (v : Nat), ∀ x ∈ digs b v, x < b := by
  intro v
  induction v using Nat.strongRecOn with
  | _ v ih =>
    by_cases hv : 0 < v
    · rw [digs_pos hb hv]
      intro x hx
      rcases List.mem_cons.1 hx with rfl | hx
      · exact Nat.mod_lt _ (by omega)
      · exact ih _ (Nat.div_lt_self hv hb) x hx
    · rw [show v = 0 by omega, digs_zero]; intro x hx; cases hx
theorem ofN_lim (v : Nat) : Lim (ofN v) := digs_lt (by omega) v
theorem val_ofN : ∀ (v : Nat), val (ofN v) = v := by
  intro v
  induction v using Nat.strongRecOn with
  | _ v ih =>
    by_cases hv : 0 < v
    · unfold ofN at ih ⊢
      rw [digs_pos (by omega) hv]
      simp only [val]
      rw [ih _ (Nat.div_lt_self hv (by omega))]
      omega
    · rw [show v = 0 by omega]; unfold ofN; rw [digs_zero]; rfl
theorem trimF_ofN (v : Nat) : trimF (ofN v) = ofN v := by
  have := ofN_val (ofN_lim v)
  rw [val_ofN] at this
  exact this.symm
theorem val_lt {l : List Nat} (h : Lim l) : val l < 18446744073709551616 ^ l.length := by
  induction l with
  | nil => simp [val]
  | cons x l ih =>
    have hl : Lim l := fun y hy => h y (List.mem_cons_of_mem _ hy)
    have hx := h x (List.mem_cons_self ..)
    have := ih hl
    simp only [val, List.length_cons, Nat.pow_succ]
    generalize 18446744073709551616 ^ l.length = p at *
    omega
/-- so many digits, so great -/
theorem digs_len {b : Nat} (hb : 2 ≤ b) : ∀ (k v : Nat), (digs b v).length ≤ k ↔ v < b ^ k := by
  intro k
  induction k with
  | zero =>
    intro v
    by_cases hv : 0 < v
    · rw [digs_pos hb hv]; simp; omega
    · rw [show v = 0 by omega, digs_zero]; simp
  | succ k ih =>
    intro v
    by_cases hv : 0 < v
    · rw [digs_pos hb hv, List.length_cons, Nat.succ_le_succ_iff, ih, Nat.pow_succ]
      exact Nat.div_lt_iff_lt_mul (by omega)
    · rw [show v = 0 by omega, digs_zero]
      have : 0 < b ^ (k + 1) := Nat.pow_pos (by omega)
      simp [this]
theorem ofN_len (k v : Nat) : (ofN v).length ≤ k ↔ v < 18446744073709551616 ^ k := digs_len (by omega) k v
theorem ofN_inj {v w : Nat} (h : ofN v = ofN w) : v = w := by rw [← val_ofN v, h, val_ofN]
/-- a row that may be a natural -/
def May (l : List Nat) : Prop := l.length ≤ 8 ∧ trimF l = l
theorem may_ofN {l : List Nat} (h : May l) (hl : Lim l) : l = ofN (val l) := by rw [ofN_val hl, h.2]
theorem ofN_may {v : Nat} (h : v < 18446744073709551616 ^ 8) : May (ofN v) := ⟨(ofN_len 8 v).2 h, trimF_ofN v⟩
theorem trimF_eq_iff (l : List Nat) : trimF l = l ↔ (l = [] ∨ l.getLast?.getD 1 ≠ 0) := by
  rcases List.eq_nil_or_concat l with rfl | ⟨l', x, rfl⟩
  · simp [trimF]
  · simp only [List.concat_eq_append, List.getLast?_append, List.getLast?_singleton, Option.some_or, Option.getD_some]
    by_cases hx : x = 0
    · subst hx
      rw [trimF_zero]
      constructor
      · intro h
        have := trimF_len l'
        rw [h] at this
        simp at this
        omega
      · rintro (h | h)
        · simp at h
        · exact absurd rfl h
    · rw [trimF_last l' hx]
      simp [hx]

/-! ### digits put together again -/
def unb (b : Nat) : List Nat → Nat
  | [] => 0
  | x :: l => x + b * unb b l
theorem unb_digs {b : Nat} (hb : 2 ≤ b) : ∀ (v : Nat), unb b (digs b v) = v := by
  intro v
  induction v using Nat.strongRecOn with
  | _ v ih =>
    by_cases hv : 0 < v
    · rw [digs_pos hb hv]
      simp only [unb]
      rw [ih _ (Nat.div_lt_self hv hb)]
      exact Nat.mod_add_div v b
    · rw [show v = 0 by omega, digs_zero]; rfl
theorem unb_append (b : Nat) (l m : List Nat) : unb b (l ++ m) = unb b l + b ^ l.length * unb b m := by
  induction l with
  | nil => simp [unb]
  | cons x l ih =>
    simp only [List.cons_append, unb, ih, List.length_cons, Nat.pow_succ]
    rw [Nat.mul_add, ← Nat.mul_assoc, Nat.mul_comm b (b ^ l.length), Nat.add_assoc]
theorem unb_drop_le (b : Nat) (hb : 1 ≤ b) : ∀ (l : List Nat) (k : Nat), unb b (l.drop k) ≤ unb b l := by
  intro l
  induction l with
  | nil => intro k; simp
  | cons x l ih =>
    intro k
    cases k with
    | zero => exact Nat.le_refl _
    | succ k =>
      simp only [List.drop_succ_cons, unb]
      have h1 := ih k
      have h2 : unb b l ≤ b * unb b l := Nat.le_mul_of_pos_left _ hb
      omega

/-! ### division by a small one -/
def smallL (n : Nat) : List Nat → List Nat × Nat
  | [] => ([], 0)
  | x :: l => (((smallL n l).2 * 18446744073709551616 + x) / n :: (smallL n l).1, ((smallL n l).2 * 18446744073709551616 + x) % n)
theorem small_spec {n : Nat} (hn : 0 < n) (l : List Nat) : val (smallL n l).1 = val l / n ∧ (smallL n l).2 = val l % n := by
  induction l with
  | nil => simp [smallL, val]
  | cons x l ih =>
    obtain ⟨h1, h2⟩ := ih
    simp only [smallL, val, h1, h2]
    have hd := Nat.div_add_mod (val l) n
    generalize hq : val l / n = q at *
    generalize hr : val l % n = r at *
    have e : x + 18446744073709551616 * val l = (r * 18446744073709551616 + x) + n * (18446744073709551616 * q) := by
      rw [← hd, Nat.mul_add, Nat.mul_left_comm]; omega
    rw [e, Nat.add_mul_div_left _ _ hn, Nat.add_mul_mod_self_left]
    exact ⟨rfl, rfl⟩
theorem small_len (n : Nat) (l : List Nat) : (smallL n l).1.length = l.length := by
  induction l with
  | nil => rfl
  | cons x l ih => simp [smallL, ih]
theorem small_lim {n : Nat} (hn : 0 < n) {l : List Nat} (h : Lim l) : Lim (smallL n l).1 := by
  induction l with
  | nil => intro y hy; cases hy
  | cons x l ih =>
    have hl : Lim l := fun y hy => h y (List.mem_cons_of_mem _ hy)
    have hx := h x (List.mem_cons_self ..)
    intro y hy
    simp only [smallL] at hy
    rcases List.mem_cons.1 hy with rfl | hy
    · rw [(small_spec hn l).2]
      have := Nat.mod_lt (val l) hn
      rw [Nat.div_lt_iff_lt_mul hn]
      generalize val l % n = r at *
      have : (r + 1) * 18446744073709551616 ≤ n * 18446744073709551616 := Nat.mul_le_mul_right _ (by omega)
      omega
    · exact ih hl y hy
theorem small_trim {n : Nat} (hn : 0 < n) {l : List Nat} (h : Lim l) : trimF (smallL n l).1 = ofN (val l / n) := by
  rw [← ofN_val (small_lim hn h), (small_spec hn l).1]
end Go.Proofs.YtgdlkpfkaehebaaGreatDoor.Nt
