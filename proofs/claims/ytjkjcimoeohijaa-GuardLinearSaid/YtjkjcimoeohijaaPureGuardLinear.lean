/- For three texts of one length, whose bytes come to a fourth one by 'xor', the sums do, too: of any three texts (those longer than 500 bytes are let go, as the statement does). -/
import Derived.Test.YtjkjcimoeohijaaPGuardLinearx1
namespace Go.Proofs.Ytjkjcimoeohijaa.Pure
open Go.RowKit Go.Proofs.Ytjkjcimoeohijaa.PGuardLinear Go.Proofs.YtjkjcimoeohijaaW.PrintWords Go.Proofs.YtjkjcimoeohijaaW.PrintLast

theorem xor_swap (a b c d : Nat) : (a ^^^ b) ^^^ (c ^^^ d) = (a ^^^ c) ^^^ (b ^^^ d) := by
  rw [Nat.xor_assoc, Nat.xor_assoc, ← Nat.xor_assoc b c d, Nat.xor_comm b c, Nat.xor_assoc]

theorem byte_xor (m n c d : Nat) : Crc.byte (m ^^^ n) (c ^^^ d) = Crc.byte m c ^^^ Crc.byte n d := by
  unfold Crc.byte
  rw [← Crc.halves_xor, xor_swap]

theorem run_xor3 (n : Nat) : ∀ (a b c : List UInt8) (d : List UInt8) (x y z : Nat), a.length = n → b.length = n → c.length = n → d.length = n →
    (∀ i, i < n → (d.getD i 0).toNat = (a.getD i 0).toNat ^^^ (b.getD i 0).toNat ^^^ (c.getD i 0).toNat) →
    Crc.run (x ^^^ y ^^^ z) d = Crc.run x a ^^^ Crc.run y b ^^^ Crc.run z c := by
  induction n with
  | zero =>
    intro a b c d x y z ha hb hc hd _
    simp at ha hb hc hd; subst ha; subst hb; subst hc; subst hd; rfl
  | succ n ih =>
    intro a b c d x y z ha hb hc hd h
    match a, b, c, d, ha, hb, hc, hd with
    | a0 :: a, b0 :: b, c0 :: c, d0 :: d, ha, hb, hc, hd =>
      have h0 := h 0 (by omega)
      simp only [List.getD_cons_zero] at h0
      show Crc.run (Crc.byte (x ^^^ y ^^^ z) d0.toNat) d = Crc.run (Crc.byte x a0.toNat) a ^^^ Crc.run (Crc.byte y b0.toNat) b ^^^ Crc.run (Crc.byte z c0.toNat) c
      rw [h0, byte_xor, byte_xor]
      refine ih a b c d _ _ _ (by simpa using ha) (by simpa using hb) (by simpa using hc) (by simpa using hd) (fun i hi => ?_)
      have := h (i + 1) (by omega)
      simpa only [List.getD_cons_succ] using this

theorem crc_xor3 (n : Nat) (a b c d : List UInt8) (ha : a.length = n) (hb : b.length = n) (hc : c.length = n) (hd : d.length = n)
    (h : ∀ i, i < n → (d.getD i 0).toNat = (a.getD i 0).toNat ^^^ (b.getD i 0).toNat ^^^ (c.getD i 0).toNat) :
    Crc.crc a ^^^ Crc.crc b ^^^ Crc.crc c = Crc.crc d := by
  have e := run_xor3 n a b c d 4294967295 4294967295 4294967295 ha hb hc hd h
  rw [show (4294967295 ^^^ 4294967295 ^^^ 4294967295 : Nat) = 4294967295 from rfl] at e
  unfold Crc.crc
  rw [e, xor_swap (Crc.run 4294967295 a), xor_swap (Crc.run 4294967295 a ^^^ Crc.run 4294967295 b)]
  rfl

theorem shown_true : syzygylaw07_shown.f = some true := by
  have h : Crc.crc [49, 50, 51, 52, 53, 54, 55, 56, 57] = 3421780262 := by decide +kernel
  have hs : guard_Sum.f (⟨#[49, 50, 51, 52, 53, 54, 55, 56, 57]⟩ : ByteArray) = some ((3421780262 : Nat) : Int) := by
    unfold guard_Sum.f
    rw [if_pos (by decide)]
    rw [show (⟨#[49, 50, 51, 52, 53, 54, 55, 56, 57]⟩ : ByteArray).data.toList = [49, 50, 51, 52, 53, 54, 55, 56, 57] from rfl, h]
  unfold syzygylaw07_shown.f
  rw [hs]
  rfl

theorem bt_nat (s : ByteArray) (i : Nat) : bt s i = ((s.data.toList.getD i 0).toNat : Int) := by
  unfold bt
  by_cases h : i < s.size
  · have h' : i < s.data.toList.length := by simpa using h
    rw [dif_pos (by simpa using h), List.getD_eq_getElem?_getD, List.getElem?_eq_getElem h']
    rfl
  · rw [dif_neg (by simpa using h), List.getD_eq_getElem?_getD, List.getElem?_eq_none (by simpa using h)]
    rfl

theorem sum_some (s : ByteArray) (h : s.size ≤ 140737488351232) : guard_Sum.f s = some ((Crc.crc s.data.toList : Nat) : Int) := by
  unfold guard_Sum.f; rw [if_pos (by omega)]

theorem wrap_in {x : Int} (h0 : 0 ≤ x) (h1 : x < 9223372036854775808) : wrap64 x = x := by unfold wrap64; omega

def x3 (a b c : List UInt8) (i : Nat) : Nat := (a.getD i 0).toNat ^^^ (b.getD i 0).toNat ^^^ (c.getD i 0).toNat

theorem x3_lt (a b c : List UInt8) (i : Nat) : x3 a b c i < 256 :=
  Nat.xor_lt_two_pow (n := 8) (Nat.xor_lt_two_pow (n := 8) (UInt8.toNat_lt _) (UInt8.toNat_lt _)) (UInt8.toNat_lt _)

theorem loop_true (a b c : ByteArray) (n : Nat) (ha : n ≤ a.size) (hb : n ≤ b.size) (hc : n ≤ c.size) (hn : n ≤ 500) (la : a.size ≤ 140737488351232) (lb : b.size ≤ 140737488351232) (lc : c.size ≤ 140737488351232) (d : Nat) :
    ∀ (k i : Nat) (l : List Int), i + d = n → d < k → l = (List.range i).map (fun j => ((x3 a.data.toList b.data.toList c.data.toList j : Nat) : Int)) →
      syzygylaw07_GuardLinear.l0 k a b c n l i = some true := by
  induction d with
  | zero =>
    intro k i l hi hk hl
    obtain ⟨k, rfl⟩ : ∃ m, k = m + 1 := ⟨k - 1, by omega⟩
    obtain rfl : i = n := by omega
    simp only [syzygylaw07_GuardLinear.l0]
    rw [if_neg (by omega), if_pos (by omega), if_pos (by omega), sum_some _ (by rw [ByteArray.size_extract]; omega)]
    simp only [Option.bind_some]
    rw [if_pos (by omega), sum_some _ (by rw [ByteArray.size_extract]; omega)]
    simp only [Option.bind_some]
    rw [if_pos (by omega), sum_some _ (by rw [ByteArray.size_extract]; omega)]
    simp only [Option.bind_some]
    have hsz : (strOfNums l).size = i := by subst hl; simp [strOfNums, ByteArray.size]
    rw [sum_some _ (by rw [hsz]; omega)]
    simp only [Option.bind_some]
    rw [u32_xor_nat _ _ (Crc.crc_lt _) (Crc.crc_lt _), u32_xor_nat _ _ (Nat.xor_lt_two_pow (n := 32) (Crc.crc_lt _) (Crc.crc_lt _)) (Crc.crc_lt _)]
    have ext : ∀ s : ByteArray, (s.extract 0 (i : Int).toNat).data.toList = s.data.toList.take i := by
      intro s; simp
    rw [ext, ext, ext]
    rw [crc_xor3 i _ _ _ (strOfNums l).data.toList (by simp; omega) (by simp; omega) (by simp; omega) (by simpa using hsz) ?_]
    · simp
    · intro j hj
      have e : (strOfNums l).data.toList.getD j 0 = UInt8.ofNat (x3 a.data.toList b.data.toList c.data.toList j) := by
        subst hl
        simp [strOfNums, hj]
      rw [e]
      have := x3_lt a.data.toList b.data.toList c.data.toList j
      have tk : ∀ s : List UInt8, (s.take i).getD j 0 = s.getD j 0 := by
        intro s; simp [hj]
      rw [tk, tk, tk]
      simp only [UInt8.toNat_ofNat']
      rw [Nat.mod_eq_of_lt (by omega)]; rfl
  | succ d ih =>
    intro k i l hi hk hl
    obtain ⟨k, rfl⟩ : ∃ m, k = m + 1 := ⟨k - 1, by omega⟩
    have hlen : l.length = i := by subst hl; simp
    simp only [syzygylaw07_GuardLinear.l0]
    rw [if_pos (by omega), if_pos (by omega), if_pos (by omega), if_pos (by omega), if_pos (by omega), if_pos (by omega), wrap_in (by omega) (by omega)]
    refine ih k (i + 1) _ (by omega) (by omega) ?_
    rw [List.range_succ, List.map_append, ← hl, bt_nat, bt_nat, bt_nat]
    congr 1
    have h8 : ∀ (s : List UInt8), (s.getD i 0).toNat < 256 := fun s => UInt8.toNat_lt _
    rw [u8_xor_nat _ _ (h8 _) (h8 _), u8_xor_nat _ _ (Nat.xor_lt_two_pow (n := 8) (h8 _) (h8 _)) (h8 _)]
    rfl

theorem GuardLinear : syzygylaw07_GuardLinear.Pure := by
  intro a b c la lb lc
  refine ⟨600, ?_⟩
  unfold syzygylaw07_GuardLinear.f
  obtain ⟨n, hn, ha, hb, hc⟩ : ∃ n : Nat, mn (mn (a.size : Int) (b.size : Int)) (c.size : Int) = (n : Int) ∧ n ≤ a.size ∧ n ≤ b.size ∧ n ≤ c.size := by
    refine ⟨min (min a.size b.size) c.size, ?_, by omega, by omega, by omega⟩
    unfold mn
    split <;> split <;> omega
  rw [hn, shown_true]
  by_cases h : (n : Int) > 500
  · rw [if_pos h]
    show syzygylaw07_GuardLinear.j0 (599 + 1) a b c n true = some true
    simp only [syzygylaw07_GuardLinear.j0, if_true, shown_true, Option.bind_some]
  · rw [if_neg h]
    simp only [Option.bind_some, Bool.not_true]
    show syzygylaw07_GuardLinear.j0 (599 + 1) a b c n false = some true
    simp only [syzygylaw07_GuardLinear.j0, Bool.false_eq_true, if_false]
    exact loop_true a b c n ha hb hc (by omega) la lb lc n 599 0 [] (by omega) (by omega) (by simp)

end Go.Proofs.Ytjkjcimoeohijaa.Pure
