/- Plain: how a natural is printed part by part, and put together again of its digits. No program in sight. -/
import Derived.Test.YtgdlkpfkaehebaaGreatDoorNd
import Derived.Test.YtgdlkpfkaehebaaGreatDoorNa
namespace Go.Proofs.YtgdlkpfkaehebaaGreatDoor.Nt

/-- the parts, ten digits each, the highest one first -/
def parts : List Nat → Bs
  | [] => []
  | d :: l => parts l ++ decK 10 d
theorem parts_spec : ∀ (l : List Nat), (∀ d ∈ l, d < 10000000000) → parts l = decK (10 * l.length) (unb 10000000000 l) := by
  intro l
  induction l with
  | nil => intro _; rfl
  | cons d l ih =>
    intro h
    have hd := h d (List.mem_cons_self ..)
    rw [parts, ih fun x hx => h x (List.mem_cons_of_mem _ hx)]
    have := decK_add (10 * l.length) 10 (unb 10000000000 l) d (by simpa using hd)
    rw [show (10 : Nat) ^ 10 = 10000000000 from rfl] at this
    rw [← this]
    simp only [unb, List.length_cons]
    congr 1
    omega
theorem unb_lt_pow {b : Nat} : ∀ {l : List Nat}, (∀ x ∈ l, x < b) → unb b l < b ^ l.length := fun h => unb_lt h
/-- what is printed -/
theorem printed (v : Nat) : stripZ (parts (digs 10000000000 v)) = decT v := by
  have hl := digs_lt (b := 10000000000) (by omega) v
  rw [parts_spec _ hl, unb_digs (by omega)]
  refine strip_decK _ _ ?_
  have h := unb_lt hl
  rw [unb_digs (by omega)] at h
  rw [Nat.pow_mul]
  exact h
theorem parts_len : ∀ (l : List Nat), (parts l).length = 10 * l.length := by
  intro l
  induction l with
  | nil => rfl
  | cons d l ih => simp only [parts, List.length_append, ih, decK_length, List.length_cons]; omega
theorem digs10_len {v : Nat} (h : v < 18446744073709551616 ^ 8) : (digs 10000000000 v).length ≤ 16 :=
  (digs_len (by omega) 16 v).2 (Nat.lt_trans h (by decide))
/-- so many digits at most, to whatever base -/
theorem digsb_len {b v : Nat} (hb : 2 ≤ b) (h : v < 18446744073709551616 ^ 8) : (digs b v).length ≤ 512 := by
  obtain ⟨j, hj⟩ : ∃ j, j = 8 := ⟨_, rfl⟩
  rw [← hj] at h
  have e : (18446744073709551616 : Nat) ^ j = 2 ^ (64 * j) := by rw [Nat.pow_mul]
  rw [e] at h
  have h2 := (digs_len hb (64 * j) v).2 (Nat.lt_of_lt_of_le h (Nat.pow_le_pow_left hb _))
  omega

/-- from the highest digit down: what has been put together -/
def fromV (b : Nat) (l : List Nat) : Nat := l.foldr (fun d x => x * b + d) 0
theorem fromV_eq (b : Nat) : ∀ l, fromV b l = unb b l := by
  intro l
  induction l with
  | nil => rfl
  | cons d l ih => show fromV b l * b + d = d + b * unb b l; rw [ih, Nat.mul_comm]; omega
/-- the digits that are put together: none is too great on the way unless it is at the end -/
theorem from_fits {b : Nat} (hb : 1 ≤ b) (l : List Nat) (k : Nat) (h : unb b l < 18446744073709551616 ^ 8) : unb b (l.drop k) < 18446744073709551616 ^ 8 :=
  Nat.lt_of_le_of_lt (unb_drop_le b hb l k) h
theorem from_big {b : Nat} (hb : 1 ≤ b) (l : List Nat) (k : Nat) (h : 18446744073709551616 ^ 8 ≤ unb b (l.drop k)) : 18446744073709551616 ^ 8 ≤ unb b l :=
  Nat.le_trans h (unb_drop_le b hb l k)
end Go.Proofs.YtgdlkpfkaehebaaGreatDoor.Nt
