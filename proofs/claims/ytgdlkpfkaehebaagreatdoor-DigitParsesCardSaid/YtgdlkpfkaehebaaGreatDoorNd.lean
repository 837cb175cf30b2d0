/- Plain: decimal texts: of a natural, padded, stripped of zeros, put together of parts, read again, and how they are ordered. No program in sight. -/
import Derived.Test.YtgdlkpfkaehebaaGreatDoorNt
namespace Go.Proofs.YtgdlkpfkaehebaaGreatDoor.Nt
abbrev Bs := List UInt8

/-- just k decimal digits -/
def decK : Nat → Nat → Bs
  | 0, _ => []
  | k + 1, d => decK k (d / 10) ++ [UInt8.ofNat (48 + d % 10)]
def decT (v : Nat) : Bs := ((digs 10 v).map fun d => UInt8.ofNat (48 + d)).reverse
def text (v : Nat) : Bs := if v = 0 then [48] else decT v
def stripZ (s : Bs) : Bs := s.dropWhile (· == 48)
def decF (a : Nat) (s : Bs) : Nat := s.foldl (fun a c => 10 * a + (c.toNat - 48)) a
def decV (s : Bs) : Nat := decF 0 s
def isDig (c : UInt8) : Bool := decide (48 ≤ c.toNat ∧ c.toNat ≤ 57)

theorem dig_toNat (d : Nat) (h : d < 10) : (UInt8.ofNat (48 + d)).toNat = 48 + d := by
  rw [UInt8.toNat_ofNat']; omega
theorem decK_length : ∀ (k v : Nat), (decK k v).length = k := by
  intro k
  induction k with
  | zero => intro v; rfl
  | succ k ih => intro v; simp [decK, ih]
theorem decT_pos {v : Nat} (h : 0 < v) : decT v = decT (v / 10) ++ [UInt8.ofNat (48 + v % 10)] := by
  unfold decT
  rw [digs_pos (by omega) h]
  simp
theorem decT_zero : decT 0 = [] := by unfold decT; rw [digs_zero]; rfl
theorem decT_ne {v : Nat} (h : 0 < v) : decT v ≠ [] := by rw [decT_pos h]; simp
theorem strip_snoc (s : Bs) (c : UInt8) : stripZ (s ++ [c]) = if stripZ s = [] then stripZ [c] else stripZ s ++ [c] := by
  unfold stripZ
  induction s with
  | nil => simp
  | cons x s ih =>
    rw [List.cons_append, List.dropWhile_cons, List.dropWhile_cons]
    by_cases hx : (x == 48) = true
    · rw [if_pos hx, if_pos hx]; exact ih
    · rw [if_neg hx, if_neg hx]; simp
theorem snoc_ind {P : Bs → Prop} (h0 : P []) (h1 : ∀ s c, P s → P (s ++ [c])) : ∀ s, P s := by
  intro s
  rw [← List.reverse_reverse s]
  induction s.reverse with
  | nil => exact h0
  | cons x l ih => rw [List.reverse_cons]; exact h1 _ _ ih
theorem strip_decK : ∀ (k v : Nat), v < 10 ^ k → stripZ (decK k v) = decT v := by
  intro k
  induction k with
  | zero => intro v hv; rw [show v = 0 by simpa using hv, decT_zero]; rfl
  | succ k ih =>
    intro v hv
    have h10 : v / 10 < 10 ^ k := by rw [Nat.pow_succ] at hv; exact (Nat.div_lt_iff_lt_mul (by omega)).2 hv
    rw [decK, strip_snoc, ih _ h10]
    by_cases h0 : v / 10 = 0
    · rw [h0, decT_zero, if_pos rfl]
      by_cases hz : v = 0
      · subst hz; rw [decT_zero]; rfl
      · rw [decT_pos (by omega), h0, decT_zero, List.nil_append]
        unfold stripZ
        rw [List.dropWhile_cons, if_neg]
        intro h
        have := congrArg UInt8.toNat (eq_of_beq h)
        rw [dig_toNat _ (by omega)] at this
        have h48 : (48 : UInt8).toNat = 48 := rfl
        omega
    · rw [if_neg (decT_ne (by omega)), ← decT_pos (by omega)]
theorem decK_zero (k : Nat) : decK k 0 = List.replicate k 48 := by
  induction k with
  | zero => rfl
  | succ k ih => rw [decK, Nat.zero_div, ih, List.replicate_succ']; rfl
theorem decK_strip (k v : Nat) (h : v < 10 ^ k) : decK k v = List.replicate (k - (decT v).length) 48 ++ decT v ∧ (decT v).length ≤ k := by
  have h1 := strip_decK k v h
  have h2 := decK_length k v
  obtain ⟨n, hn⟩ : ∃ n, decK k v = List.replicate n 48 ++ stripZ (decK k v) := by
    generalize decK k v = s
    unfold stripZ
    induction s with
    | nil => exact ⟨0, rfl⟩
    | cons x s ih =>
      rw [List.dropWhile_cons]
      by_cases hx : (x == 48) = true
      · obtain ⟨n, hn⟩ := ih
        rw [if_pos hx]
        refine ⟨n + 1, ?_⟩
        rw [List.replicate_succ, List.cons_append, ← hn, eq_of_beq hx]
      · rw [if_neg hx]; exact ⟨0, rfl⟩
  rw [h1] at hn
  have h3 := congrArg List.length hn
  rw [h2, List.length_append, List.length_replicate] at h3
  exact ⟨by rw [hn, show k - (decT v).length = n by omega], by omega⟩
/-- a part of the text, padded -/
theorem pad_text (k v : Nat) (hk : 1 ≤ k) (h : v < 10 ^ k) : List.replicate (k - (text v).length) 48 ++ text v = decK k v ∧ (text v).length ≤ k ∧ 1 ≤ (text v).length := by
  unfold text
  by_cases h0 : v = 0
  · subst h0
    rw [if_pos rfl, decK_zero]
    refine ⟨?_, hk, Nat.le_refl _⟩
    rw [show ([48] : Bs) = List.replicate 1 48 from rfl, List.replicate_append_replicate, List.length_replicate]
    congr 1; omega
  · rw [if_neg h0]
    have := decK_strip k v h
    refine ⟨this.1.symm, this.2, ?_⟩
    have := decT_ne (v := v) (by omega)
    cases hd : decT v with
    | nil => exact absurd hd this
    | cons x l => simp
theorem decK_add (k : Nat) : ∀ (m v w : Nat), w < 10 ^ m → decK (k + m) (v * 10 ^ m + w) = decK k v ++ decK m w := by
  intro m
  induction m with
  | zero => intro v w hw; simp [decK, show w = 0 by simpa using hw]
  | succ m ih =>
    intro v w hw
    rw [← Nat.add_assoc, decK, decK]
    have e1 : (v * 10 ^ (m + 1) + w) / 10 = v * 10 ^ m + w / 10 := by
      rw [Nat.pow_succ, ← Nat.mul_assoc, Nat.add_comm, Nat.add_mul_div_right _ _ (by omega), Nat.add_comm]
    have e2 : (v * 10 ^ (m + 1) + w) % 10 = w % 10 := by
      rw [Nat.pow_succ, ← Nat.mul_assoc, Nat.add_comm, Nat.add_mul_mod_self_right]
    have h10 : w / 10 < 10 ^ m := by rw [Nat.pow_succ] at hw; exact (Nat.div_lt_iff_lt_mul (by omega)).2 hw
    rw [e1, e2, ih _ _ h10, List.append_assoc]

/-! ### reading -/
theorem decF_append (a : Nat) (s t : Bs) : decF a (s ++ t) = decF (decF a s) t := by unfold decF; rw [List.foldl_append]
theorem decF_shift : ∀ (s : Bs) (a : Nat), decF a s = a * 10 ^ s.length + decF 0 s := by
  intro s
  induction s with
  | nil => intro a; simp [decF]
  | cons c s ih =>
    intro a
    have h1 := ih (10 * a + (c.toNat - 48))
    have h2 := ih (10 * 0 + (c.toNat - 48))
    show decF (10 * a + (c.toNat - 48)) s = a * 10 ^ (s.length + 1) + decF (10 * 0 + (c.toNat - 48)) s
    rw [h1, h2, Nat.pow_succ, Nat.mul_zero, Nat.zero_add, Nat.add_mul, Nat.add_assoc]
    congr 1
    rw [Nat.mul_comm 10 a, Nat.mul_assoc, Nat.mul_comm (10 ^ s.length) 10]
theorem decV_append (s t : Bs) : decV (s ++ t) = decV s * 10 ^ t.length + decV t := by
  unfold decV
  rw [decF_append, decF_shift]
theorem decV_decK : ∀ (k v : Nat), v < 10 ^ k → decV (decK k v) = v := by
  intro k
  induction k with
  | zero => intro v hv; rw [show v = 0 by simpa using hv]; rfl
  | succ k ih =>
    intro v hv
    have h10 : v / 10 < 10 ^ k := by rw [Nat.pow_succ] at hv; exact (Nat.div_lt_iff_lt_mul (by omega)).2 hv
    rw [decK, decV_append, ih _ h10]
    unfold decV decF
    simp only [List.foldl_cons, List.foldl_nil, List.length_cons, List.length_nil, Nat.zero_add, Nat.pow_one, Nat.mul_zero]
    rw [dig_toNat _ (by omega)]
    omega
theorem ex_pow (v : Nat) : ∃ k, v < 10 ^ k := ⟨v, Nat.lt_pow_self (by omega)⟩
theorem decV_zeros (n : Nat) (s : Bs) : decV (List.replicate n 48 ++ s) = decV s := by
  induction n with
  | zero => rfl
  | succ n ih =>
    rw [List.replicate_succ, List.cons_append, ← ih]
    unfold decV decF
    rw [List.foldl_cons]
    rfl
theorem decV_decT (v : Nat) : decV (decT v) = v := by
  obtain ⟨k, hk⟩ := ex_pow v
  have h1 := (decK_strip k v hk).1
  have h2 := decV_decK k v hk
  rw [h1, decV_zeros] at h2
  exact h2
theorem decV_text (v : Nat) : decV (text v) = v := by
  unfold text
  split
  · rename_i h; subst h; rfl
  · exact decV_decT v
theorem decV_lt : ∀ (s : Bs), s.all isDig = true → decV s < 10 ^ s.length := by
  refine snoc_ind ?_ ?_
  · intro _; simp [decV, decF]
  · intro s c ih h
    rw [List.all_append, Bool.and_eq_true] at h
    have h1 := ih h.1
    have hc : 48 ≤ c.toNat ∧ c.toNat ≤ 57 := by have := h.2; simp [isDig] at this; exact this
    rw [decV_append, List.length_append]
    simp only [List.length_cons, List.length_nil, Nat.zero_add, Nat.pow_succ]
    have : decV [c] = c.toNat - 48 := by unfold decV decF; simp
    omega
theorem dec_back : ∀ (s : Bs), s.all isDig = true → decK s.length (decV s) = s := by
  refine snoc_ind ?_ ?_
  · intro _; rfl
  · intro s c ih h
    rw [List.all_append, Bool.and_eq_true] at h
    have hc : 48 ≤ c.toNat ∧ c.toNat ≤ 57 := by have := h.2; simp [isDig] at this; exact this
    rw [decV_append, List.length_append]
    simp only [List.length_cons, List.length_nil, Nat.zero_add, Nat.pow_one]
    have e : decV [c] = c.toNat - 48 := by unfold decV decF; simp
    rw [e, decK, show (decV s * 10 + (c.toNat - 48)) / 10 = decV s by omega, ih h.1, show (decV s * 10 + (c.toNat - 48)) % 10 = c.toNat - 48 by omega, show 48 + (c.toNat - 48) = c.toNat by omega]
    congr 2
    exact UInt8.ofNat_toNat
theorem text_digs (v : Nat) : (text v).all isDig = true := by
  have hk : ∀ k v, (decK k v).all isDig = true := by
    intro k
    induction k with
    | zero => intro v; rfl
    | succ k ih =>
      intro v
      rw [decK, List.all_append, ih, Bool.true_and]
      simp only [List.all_cons, List.all_nil, Bool.and_true, isDig, decide_eq_true_eq]
      rw [dig_toNat _ (by omega)]
      omega
  unfold text
  split
  · rfl
  · obtain ⟨k, h⟩ := ex_pow v
    have h1 := hk k v
    rw [(decK_strip k v h).1, List.all_append, Bool.and_eq_true] at h1
    exact h1.2
/-- a text of digits, that begins by none that is 0, is what is printed of what it comes to -/
theorem text_back {s : Bs} (hs : s.all isDig = true) (h1 : s ≠ []) (h0 : s.length > 1 → s.head? ≠ some 48) : text (decV s) = s := by
  have hb := dec_back s hs
  have hl := decV_lt s hs
  by_cases hv : decV s = 0
  · rw [hv, decK_zero] at hb
    cases s with
    | nil => exact absurd rfl h1
    | cons c t =>
      have hc : c = 48 := by rw [List.length_cons, List.replicate_succ] at hb; exact (List.cons.inj hb).1.symm
      subst hc
      have ht : t = [] := by
        cases t with
        | nil => rfl
        | cons d t => exact absurd rfl (h0 (by simp))
      subst ht
      rw [hv]; rfl
  · have hst := strip_decK s.length (decV s) hl
    rw [hb] at hst
    unfold text
    rw [if_neg hv, ← hst]
    unfold stripZ
    cases s with
    | nil => rfl
    | cons c t =>
      rw [List.dropWhile_cons]
      by_cases hc : (c == 48) = true
      · exfalso
        have hc := eq_of_beq hc
        subst hc
        cases t with
        | nil => exact hv rfl
        | cons d t => exact h0 (by simp) rfl
      · rw [if_neg hc]
theorem text_head {v : Nat} (h : (text v).length > 1) : (text v).head? ≠ some 48 := by
  unfold text at h ⊢
  split at h
  · simp at h
  · rename_i h0
    rw [if_neg h0]
    obtain ⟨k, hk⟩ := ex_pow v
    have hs := strip_decK k v hk
    intro hh
    unfold stripZ at hs
    have := List.head?_dropWhile_not (p := fun x : UInt8 => x == 48) (decK k v)
    rw [hs, hh] at this
    simp at this
theorem text_inj {v w : Nat} (h : text v = text w) : v = w := by rw [← decV_text v, h, decV_text]
theorem text_len (v k : Nat) (hk : 1 ≤ k) : (text v).length ≤ k ↔ v < 10 ^ k := by
  constructor
  · intro h
    have h1 := decV_lt (text v) (text_digs v)
    rw [decV_text] at h1
    exact Nat.lt_of_lt_of_le h1 (Nat.pow_le_pow_right (by omega) h)
  · intro h
    exact (pad_text k v hk h).2.1

/-! ### the order of texts -/
theorem lt_snoc : ∀ (A B : Bs) (_ : A.length = B.length) (c d : UInt8), (A ++ [c] < B ++ [d]) ↔ (A < B ∨ (A = B ∧ c < d)) := by
  intro A
  induction A with
  | nil =>
    intro B hl c d
    obtain rfl : B = [] := List.eq_nil_of_length_eq_zero hl.symm
    simp [List.cons_lt_cons_iff]
  | cons a A ih =>
    intro B hl c d
    cases B with
    | nil => simp at hl
    | cons b B =>
      have hl : A.length = B.length := by simpa using hl
      rw [List.cons_append, List.cons_append, List.cons_lt_cons_iff, List.cons_lt_cons_iff, ih B hl c d]
      constructor
      · rintro (h | ⟨rfl, h | ⟨rfl, h⟩⟩)
        · exact .inl (.inl h)
        · exact .inl (.inr ⟨rfl, h⟩)
        · exact .inr ⟨rfl, h⟩
      · rintro ((h | ⟨rfl, h⟩) | ⟨h1, h⟩)
        · exact .inl h
        · exact .inr ⟨rfl, .inl h⟩
        · obtain ⟨rfl, rfl⟩ := List.cons.inj h1
          exact .inr ⟨rfl, .inr ⟨rfl, h⟩⟩
theorem decK_lt : ∀ (k v w : Nat), v < 10 ^ k → w < 10 ^ k → (decK k v < decK k w ↔ v < w) := by
  intro k
  induction k with
  | zero =>
    intro v w hv hw
    rw [show v = 0 by simpa using hv, show w = 0 by simpa using hw]
    simp [decK]
  | succ k ih =>
    intro v w hv hw
    have hv10 : v / 10 < 10 ^ k := by rw [Nat.pow_succ] at hv; exact (Nat.div_lt_iff_lt_mul (by omega)).2 hv
    have hw10 : w / 10 < 10 ^ k := by rw [Nat.pow_succ] at hw; exact (Nat.div_lt_iff_lt_mul (by omega)).2 hw
    rw [decK, decK, lt_snoc _ _ (by rw [decK_length, decK_length]), ih _ _ hv10 hw10]
    have hc : (UInt8.ofNat (48 + v % 10) < UInt8.ofNat (48 + w % 10)) ↔ v % 10 < w % 10 := by
      rw [UInt8.lt_iff_toNat_lt, dig_toNat _ (by omega), dig_toNat _ (by omega)]
      omega
    rw [hc]
    constructor
    · rintro (h | ⟨h1, h2⟩)
      · omega
      · have := congrArg decV h1
        rw [decV_decK _ _ hv10, decV_decK _ _ hw10] at this
        omega
    · intro h
      by_cases h1 : v / 10 < w / 10
      · exact .inl h1
      · have : v / 10 = w / 10 := by omega
        exact .inr ⟨by rw [this], by omega⟩
theorem text_decK (v : Nat) : text v = decK (text v).length v := by
  have h1 : 1 ≤ (text v).length := by
    unfold text
    split
    · simp
    · have := decT_ne (v := v) (by omega)
      cases hd : decT v with
      | nil => exact absurd hd this
      | cons x l => simp
  have h2 := (text_len v _ h1).1 (Nat.le_refl _)
  have h3 := (pad_text _ v h1 h2).1
  rw [Nat.sub_self] at h3
  exact h3
/-- of two naturals the greater one has more digits, or, of as many, its text is greater -/
theorem text_order (v w : Nat) : v < w ↔ (text v).length < (text w).length ∨ ((text v).length = (text w).length ∧ text v < text w) := by
  have hp : ∀ x, 1 ≤ (text x).length := by
    intro x
    unfold text
    split
    · simp
    · have := decT_ne (v := x) (by omega)
      cases hd : decT x with
      | nil => exact absurd hd this
      | cons y l => simp
  have hv := (text_len v _ (hp v)).1 (Nat.le_refl _)
  have hw := (text_len w _ (hp w)).1 (Nat.le_refl _)
  rcases Nat.lt_trichotomy (text v).length (text w).length with h | h | h
  · refine ⟨fun _ => .inl h, fun _ => ?_⟩
    rcases Nat.lt_or_ge v w with h1 | h1
    · exact h1
    · exfalso
      have := (text_len w (text v).length (hp v)).2 (Nat.lt_of_le_of_lt h1 hv)
      omega
  · have hlt : text v < text w ↔ v < w := by
      rw [text_decK v, text_decK w, ← h]
      exact decK_lt _ _ _ hv (by rw [h]; exact hw)
    rw [hlt]
    constructor
    · intro h1; exact .inr ⟨h, h1⟩
    · rintro (h1 | ⟨_, h1⟩)
      · omega
      · exact h1
  · constructor
    · intro h1
      have := (text_len v (text w).length (hp w)).2 (Nat.lt_trans h1 hw)
      omega
    · rintro (h1 | ⟨h1, _⟩) <;> omega

/-! ### a text in parts of ten digits, from its end -/
def chunks (s : Bs) : List Nat := if h : s = [] then [] else decV (s.drop (s.length - 10)) :: chunks (s.take (s.length - 10))
termination_by s.length
decreasing_by
  have : 0 < s.length := by cases s with | nil => exact absurd rfl h | cons x l => simp
  rw [List.length_take]; omega
theorem chunks_nil : chunks [] = [] := by rw [chunks, dif_pos rfl]
theorem chunks_pos {s : Bs} (h : s ≠ []) : chunks s = decV (s.drop (s.length - 10)) :: chunks (s.take (s.length - 10)) := by rw [chunks, dif_neg h]
theorem all_take {s : Bs} {p : UInt8 → Bool} (h : s.all p = true) (k : Nat) : (s.take k).all p = true ∧ (s.drop k).all p = true := by
  rw [← List.take_append_drop k s, List.all_append, Bool.and_eq_true] at h
  exact h
theorem chunks_spec : ∀ (n : Nat) (s : Bs), s.length = n → s.all isDig = true → unb 10000000000 (chunks s) = decV s ∧ ∀ d ∈ chunks s, d < 10000000000 := by
  intro n
  induction n using Nat.strongRecOn with
  | _ n ih =>
    intro s hn hs
    by_cases h : s = []
    · subst h; rw [chunks_nil]; exact ⟨rfl, fun d hd => by cases hd⟩
    · have hpos : 0 < s.length := by cases s with | nil => exact absurd rfl h | cons x l => simp
      obtain ⟨h1, h2⟩ := all_take hs (s.length - 10)
      have hl : (s.drop (s.length - 10)).length ≤ 10 := by rw [List.length_drop]; omega
      obtain ⟨i1, i2⟩ := ih (s.take (s.length - 10)).length (by rw [List.length_take]; omega) _ rfl h1
      have hd := decV_lt _ h2
      have hd10 : decV (s.drop (s.length - 10)) < 10000000000 := Nat.lt_of_lt_of_le hd (by
        have : (10 : Nat) ^ (s.drop (s.length - 10)).length ≤ 10 ^ 10 := Nat.pow_le_pow_right (by omega) hl
        exact this)
      rw [chunks_pos h]
      refine ⟨?_, ?_⟩
      · simp only [unb]
        rw [i1]
        have e := decV_append (s.take (s.length - 10)) (s.drop (s.length - 10))
        rw [List.take_append_drop] at e
        by_cases h10 : 10 ≤ s.length
        · rw [show (s.drop (s.length - 10)).length = 10 by rw [List.length_drop]; omega] at e
          rw [e]
          omega
        · rw [show s.length - 10 = 0 by omega] at e ⊢
          rw [List.take_zero] at e ⊢
          rw [e]
          simp [decV, decF]
      · intro d hd
        rcases List.mem_cons.1 hd with rfl | hd
        · exact hd10
        · exact i2 d hd
theorem text_small {v : Nat} (h : v < 18446744073709551616 ^ 8) : (text v).length ≤ 155 := (text_len v 155 (by omega)).2 (Nat.lt_trans h (by decide))
end Go.Proofs.YtgdlkpfkaehebaaGreatDoor.Nt
