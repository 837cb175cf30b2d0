/- Frames that rise by 1 are told, one behind the other; what was cut off behind them counts nothing; by another epoch none is told: for every list of texts, every epoch and every cut (more than twenty texts, and texts of more than 300 bytes, are let go, as the statement does). -/
import Derived.Test.YtjkjcimoeohijaaPAllx23
import Derived.Test.YtjkjcimoeohijaaTheirs
import Derived.Test.YtjkjcimoeohijaaPuts
import Derived.Test.YtjkjcimoeohijaaPrefix
import Derived.OpenShut
namespace Go.Proofs.Ytjkjcimoeohijaa.Pure
open Go.RowKit Go.Proofs.Ytjkjcimoeohijaa.PAll Go.Proofs.YtjkjcimoeohijaaW.PrintWords Go.Proofs.YtjkjcimoeohijaaW.PrintLast Go.Proofs.Ytjkjcimoeohijaa.Fr

section
variable (l : List ByteArray) (ep : Nat)
def txt (i : Nat) : ByteArray := l.getD i ByteArray.empty
def pf (i : Nat) : P3 := (i + 1, ep, (txt l i).data.toList)
def psN (m : Nat) : List P3 := (List.range m).map (pf l ep)
def E (m : Nat) : Nat := sizes (psN l ep m)

theorem psN_succ (m : Nat) : psN l ep (m + 1) = psN l ep m ++ [pf l ep m] := by unfold psN; rw [List.range_succ, List.map_append]; rfl
theorem psN_length (m : Nat) : (psN l ep m).length = m := by simp [psN]
theorem E_succ (m : Nat) : E l ep (m + 1) = E l ep m + (24 + (txt l m).size) := by
  unfold E; rw [psN_succ, sizes_append]; simp only [sizes, pf, list_size]; omega
theorem E_mono (m k : Nat) : E l ep m ≤ E l ep (m + k) := by
  induction k with
  | zero => exact Nat.le_refl _
  | succ k ih => rw [← Nat.add_assoc, E_succ]; omega
theorem E_le (B : Nat) (h : ∀ i, (txt l i).size ≤ B) (m : Nat) : E l ep m ≤ m * (24 + B) := by
  induction m with
  | zero => simp [E, psN, sizes]
  | succ m ih => rw [E_succ, Nat.succ_mul]; have := h m; omega
theorem goodsN (m : Nat) : goods ep 0 (asF 0 (psN l ep m)) := by
  induction m with
  | zero => trivial
  | succ m ih =>
    rw [psN_succ, asF_append]
    refine goods_snoc ep _ 0 _ ih ?_
    rw [asF_length, psN_length]
    simp [good, pf]
theorem psN_split (m k : Nat) : ∃ qs, psN l ep (m + k) = psN l ep m ++ qs := by
  induction k with
  | zero => exact ⟨[], by simp⟩
  | succ k ih =>
    obtain ⟨qs, h⟩ := ih
    exact ⟨qs ++ [pf l ep (m + k)], by rw [← Nat.add_assoc, psN_succ, h, List.append_assoc]⟩
theorem okN (hep : ep < 18446744073709551616) (B : Nat) (hB : B ≤ 8192) (h : ∀ i, (txt l i).size ≤ B) (m : Nat) (hm : m ≤ 1000) : ∀ p ∈ psN l ep m, p.ok := by
  intro p hp
  simp only [psN, List.mem_map, List.mem_range] at hp
  obtain ⟨i, hi, rfl⟩ := hp
  refine ⟨?_, hep, ?_⟩
  · show i + 1 < _; omega
  · show (txt l i).data.toList.length ≤ 8192; rw [list_size]; have := h i; omega

/-- the ends, as the law keeps them -/
def endsI (m : Nat) : List Int := (List.range (m + 1)).map fun j => ((E l ep j : Nat) : Int)
theorem endsI_succ (m : Nat) : endsI l ep (m + 1) = endsI l ep m ++ [((E l ep (m + 1) : Nat) : Int)] := by
  unfold endsI; rw [List.range_succ (n := m + 1), List.map_append]; rfl
theorem endsI_length (m : Nat) : (endsI l ep m).length = m + 1 := by simp [endsI]
theorem endsI_get (m j : Nat) (h : j ≤ m) : rd (endsI l ep m) (j : Int) = ((E l ep j : Nat) : Int) := by
  unfold rd endsI
  rw [Int.toNat_natCast, List.getD_eq_getElem?_getD, List.getElem?_map, List.getElem?_range (by omega)]; rfl

theorem wrap_nat (n : Nat) (h : n < 1000000) : wrap64 ((n : Int) + 1) = ((n + 1 : Nat) : Int) := by rw [wrap_in (by omega) (by omega)]; omega
theorem wrap_24 (n : Nat) (h : n < 1000000) : wrap64 ((n : Int) + 24) = ((n + 24 : Nat) : Int) := by rw [wrap_in (by omega) (by omega)]; omega

theorem take_psN (n m : Nat) (h : m ≤ n) : (toR (asF 0 (psN l ep n))).take m = toR (asF 0 (psN l ep m)) := by
  obtain ⟨k, rfl⟩ : ∃ k, n = m + k := ⟨n - m, by omega⟩
  obtain ⟨qs, hq⟩ := psN_split l ep m k
  rw [hq, asF_append]
  unfold toR
  rw [List.map_append, List.take_append_of_le_length (by rw [List.length_map, asF_length, psN_length]; omega), List.take_of_length_le (by rw [List.length_map, asF_length, psN_length]; omega)]

/-- a beginning of the frames: those that are whole, and nothing more -/
theorem cut_G (hep : ep < 18446744073709551616) (B : Nat) (hB : B ≤ 8192) (hs : ∀ i, (txt l i).size ≤ B) (n m c : Nat) (hn : n ≤ 1000) (hmn : m ≤ n) (h1 : E l ep m ≤ c) (h2 : m = n ∨ c < E l ep (m + 1)) (hc : c ≤ E l ep n) :
    G ((putsL (psN l ep n)).take c) 0 = asF 0 (psN l ep m) := by
  have hok := okN l ep hep B hB hs m (by omega)
  have hlen := putsL_length (psN l ep m)
  rcases Nat.eq_or_lt_of_le hmn with h | h
  · subst h
    obtain rfl : c = E l ep m := by omega
    rw [List.take_of_length_le (by rw [hlen]; exact Nat.le_refl _)]
    have := G_puts (psN l ep m) [] 0 hok
    rw [List.append_nil] at this
    rw [this, show G [] (0 + sizes (psN l ep m)) = [] from rfl, List.append_nil]
  · have hc2 : c < E l ep (m + 1) := by omega
    obtain ⟨k, rfl⟩ : ∃ k, n = (m + 1) + k := ⟨n - m - 1, by omega⟩
    obtain ⟨qs, hq⟩ := psN_split l ep (m + 1) k
    have hE : E l ep m = sizes (psN l ep m) := rfl
    have hE2 := E_succ l ep m
    have hpl := putL_length (pf l ep m).1 (pf l ep m).2.1 (pf l ep m).2.2
    have htl : (pf l ep m).2.2.length = (txt l m).size := by simp [pf]
    have e : putsL (psN l ep (m + 1 + k)) = putsL (psN l ep m) ++ (putL (pf l ep m).1 (pf l ep m).2.1 (pf l ep m).2.2 ++ putsL qs) := by
      rw [hq, psN_succ]; simp [putsL]
    rw [e, List.take_append, List.take_of_length_le (by rw [hlen, ← hE]; exact h1), hlen, ← hE,
      List.take_append_of_le_length (by rw [hpl, htl]; omega), G_puts _ _ 0 hok]
    have hno : (firstL ((putL (pf l ep m).1 (pf l ep m).2.1 (pf l ep m).2.2).take (c - E l ep m))).2.2.2.2 ≠ 0 := by
      by_cases h0 : c - E l ep m = 0
      · rw [h0, List.take_zero, firstL_empty rfl]; simp
      · rw [first_prefix _ _ _ (by rw [htl]; have := hs m; omega) _ (by rw [htl]; omega) h0]; simp
    rw [G_no hno, List.append_nil]

/-- by another epoch none is told -/
theorem other_none (hep : ep < 18446744073709551616) (B : Nat) (hB : B ≤ 8192) (hs : ∀ i, (txt l i).size ≤ B) (n : Nat) (hn : n ≤ 1000) (ep' : Nat) (h : ep' ≠ ep) :
    allL ep' 0 0 (G (putsL (psN l ep n)) 0) = ([], 0) := by
  have hok := okN l ep hep B hB hs n hn
  have := G_puts (psN l ep n) [] 0 hok
  rw [List.append_nil] at this
  rw [this, show G [] (0 + sizes (psN l ep n)) = [] from rfl, List.append_nil]
  cases n with
  | zero => rfl
  | succ n =>
    have : ∃ qs, psN l ep (n + 1) = pf l ep 0 :: qs := by
      obtain ⟨qs, hq⟩ := psN_split l ep 1 n
      exact ⟨qs, by rw [show n + 1 = 1 + n from by omega, hq]; rfl⟩
    obtain ⟨qs, hq⟩ := this
    rw [hq]
    simp only [asF, allL]
    rw [if_neg (by simp [good, pf]; intro h2; exact absurd h2.symm h)]


theorem wrapu_one (n : Nat) (h : n < 1000000) : IntKind.u64.wrap (IntKind.u64.wrap (n : Int) + 1) = ((n + 1 : Nat) : Int) := wrapu_len n h
theorem wrapu_other (h : ep < 18446744073709551616) : ∃ e : Nat, e ≠ ep ∧ IntKind.u64.wrap ((ep : Int) + 1) = (e : Int) := by
  by_cases h1 : ep + 1 < 18446744073709551616
  · exact ⟨ep + 1, by omega, by rw [wrap_u64 (by omega) (by omega)]; omega⟩
  · refine ⟨0, by omega, ?_⟩
    rw [IntKind.wrap_u64]
    omega

theorem back_end (hep : ep < 18446744073709551616) (hs : ∀ i, (txt l i).size ≤ 300) (n m c k : Nat) (hn : n ≤ 20) (hmn : m ≤ n) (h1 : E l ep m ≤ c) (h2 : m = n ∨ c < E l ep (m + 1)) (hc : c ≤ E l ep n) (hk : 100 ≤ k) :
    syzygylaw07_GuardBack.j3 (k + 1) ep (ba (putsL (psN l ep n))) (toR (asF 0 (psN l ep n))) (endsI l ep n) c m = some true := by
  have hsz : (putsL (psN l ep n)).length = E l ep n := putsL_length _
  have hE := E_le l ep 300 hs n
  have hEn : n * (24 + 300) ≤ 20 * 324 := Nat.mul_le_mul_right _ hn
  have hcut := cut_G l ep hep 300 (by omega) hs n m c (by omega) hmn h1 h2 hc
  have hlm := asF_length (psN l ep m) 0
  rw [psN_length] at hlm
  have hall := allL_of_goods ep (asF 0 (psN l ep m)) 0 0 (goodsN l ep m)
  have hlast := asF_last (psN l ep m) 0
  have a1 : guard_All.f ((ba (putsL (psN l ep n))).extract 0 (c : Int).toNat) ep = some (toS (asF 0 (psN l ep m)), ((E l ep m : Nat) : Int)) := by
    unfold guard_All.f
    rw [if_pos ⟨by rw [ByteArray.size_extract, ba_size]; omega, by omega⟩, extract_list, ba_list, List.drop_zero, Int.toNat_natCast, Int.toNat_natCast, hcut, hall]
    show some (toS (asF 0 (psN l ep m)), ((lastEnd 0 (asF 0 (psN l ep m)) : Nat) : Int)) = _
    rw [hlast, Nat.zero_add]; rfl
  obtain ⟨e', he', hw⟩ := wrapu_other ep hep
  have a2 : guard_All.f (ba (putsL (psN l ep n))) (e' : Int) = some (toS [], 0) := by
    unfold guard_All.f
    rw [if_pos ⟨by rw [ba_size]; omega, by omega⟩, ba_list, Int.toNat_natCast, other_none l ep hep 300 (by omega) hs n (by omega) e' he']
    rfl
  have a3 := theirs_some (asF 0 (psN l ep m)) (by omega) k (by omega)
  have a4 := same_some (toR (asF 0 (psN l ep m))) (by simp only [toR, List.length_map]; omega) k (by simp only [toR, List.length_map]; omega)
  simp only [syzygylaw07_GuardBack.j3]
  rw [if_pos (show (0 : Int) ≤ (c : Int) from by omega), if_pos (show (c : Int) ≤ ((ba (putsL (psN l ep n))).size : Int) from by rw [ba_size]; omega), a1, Option.bind_some, hw, a2, Option.bind_some, a3, Option.bind_some,
    if_pos (show (0 : Int) ≤ (m : Int) from by omega), if_pos (show (m : Int) ≤ ((toR (asF 0 (psN l ep n))).length : Int) from by simp only [toR, List.length_map, asF_length, psN_length]; omega), Int.toNat_natCast, take_psN l ep n m hmn, a4, Option.bind_some,
    if_pos rfl, if_pos (show (m : Int) < ((endsI l ep n).length : Int) from by rw [endsI_length]; omega), endsI_get l ep n m hmn, if_pos rfl, if_pos (by rfl)]
  rfl

theorem back_find (hep : ep < 18446744073709551616) (hs : ∀ i, (txt l i).size ≤ 300) (n c : Nat) (hn : n ≤ 20) (hc : c ≤ E l ep n) (d : Nat) : ∀ (k m : Nat), m + d = n → d + 102 ≤ k → E l ep m ≤ c →
    syzygylaw07_GuardBack.l1 k ep (ba (putsL (psN l ep n))) (toR (asF 0 (psN l ep n))) (endsI l ep n) c m = some true := by
  induction d with
  | zero =>
    intro k m hm hk h1
    obtain ⟨k, rfl⟩ : ∃ j, k = j + 1 + 1 := ⟨k - 2, by omega⟩
    simp only [syzygylaw07_GuardBack.l1]
    rw [wrap_nat m (by omega), if_neg (by rw [endsI_length]; omega)]
    exact back_end l ep hep hs n m c k hn (by omega) h1 (Or.inl (by omega)) hc (by omega)
  | succ d ih =>
    intro k m hm hk h1
    obtain ⟨k, rfl⟩ : ∃ j, k = j + 1 + 1 := ⟨k - 2, by omega⟩
    simp only [syzygylaw07_GuardBack.l1]
    rw [wrap_nat m (by omega), if_pos (by rw [endsI_length]; omega), if_pos (by omega), endsI_get l ep n (m + 1) (by omega)]
    by_cases h2 : E l ep (m + 1) ≤ c
    · rw [if_pos (by omega)]
      exact ih (k + 1) (m + 1) (by omega) (by omega) h2
    · rw [if_neg (by omega)]
      exact back_end l ep hep hs n m c k hn (by omega) h1 (Or.inr (by omega)) hc (by omega)

end

theorem back_loop (l : List ByteArray) (ep c : Nat) (hep : ep < 18446744073709551616) (hl : l.length ≤ 20) (hc : c ≤ 65535) (d : Nat) : ∀ (k i : Nat), i + d = l.length → d + 130 ≤ k → (∀ j, j < i → (txt l j).size ≤ 300) →
    syzygylaw07_GuardBack.l0 k l ep c (ba (putsL (psN l ep i))) (toR (asF 0 (psN l ep i))) (endsI l ep i) i = some true := by
  induction d with
  | zero =>
    intro k i hi hk hs
    obtain ⟨k, rfl⟩ : ∃ j, k = j + 1 := ⟨k - 1, by omega⟩
    have hs2 : ∀ j, (txt l j).size ≤ 300 := by
      intro j
      by_cases hj : j < i
      · exact hs j hj
      · unfold txt; rw [List.getD_eq_getElem?_getD, List.getElem?_eq_none (by omega)]; decide
    have hsz : (putsL (psN l ep i)).length = E l ep i := putsL_length _
    have hE := E_le l ep 300 hs2 i
    have hEn : i * (24 + 300) ≤ 20 * 324 := Nat.mul_le_mul_right _ (by omega)
    simp only [syzygylaw07_GuardBack.l0]
    rw [if_neg (by omega), ba_size, hsz, wrap_nat _ (by omega), if_neg (by omega), wrap_in (x := (c : Int)) (by omega) (by omega)]
    have hm : Int.tmod (c : Int) ((E l ep i + 1 : Nat) : Int) = ((c % (E l ep i + 1) : Nat) : Int) := by rw [Int.tmod_eq_emod_of_nonneg (by omega)]; rfl
    rw [hm]
    have hlt := Nat.mod_lt c (show 0 < E l ep i + 1 by omega)
    exact back_find l ep hep hs2 i (c % (E l ep i + 1)) (by omega) (by omega) i k 0 (by omega) (by omega) (by simp [E, psN, sizes])
  | succ d ih =>
    intro k i hi hk hs
    obtain ⟨k, rfl⟩ : ∃ j, k = j + 1 := ⟨k - 1, by omega⟩
    have htx : rdOf ByteArray.empty l (i : Int) = txt l i := by unfold rdOf txt; rw [Int.toNat_natCast]
    simp only [syzygylaw07_GuardBack.l0]
    rw [if_pos (by omega), if_pos (by omega), htx]
    by_cases h : ((txt l i).size : Int) > 300
    · rw [if_pos h, shown_true]; rfl
    rw [if_neg h, wrapu_one i (by omega)]
    have hput := put_some (i + 1) ep (txt l i) (by omega) hep (by omega)
    have hpl := putL_length (i + 1) ep (txt l i).data.toList
    rw [list_size] at hpl
    have hsz : (putsL (psN l ep i)).length = E l ep i := putsL_length _
    have hEi : E l ep i ≤ 20 * 324 := by
      have h1 : E l ep i ≤ i * (24 + 300) := by
        have : ∀ m, m ≤ i → E l ep m ≤ m * (24 + 300) := by
          intro m
          induction m with
          | zero => intro _; simp [E, psN, sizes]
          | succ m ihm => intro hm; rw [E_succ, Nat.succ_mul]; have := ihm (by omega); have := hs m (by omega); omega
        exact this i (Nat.le_refl _)
      exact Nat.le_trans h1 (Nat.mul_le_mul_right (24 + 300) (show i ≤ 20 by omega))
    have hnew : putsL (psN l ep (i + 1)) = putsL (psN l ep i) ++ putL (i + 1) ep (txt l i).data.toList := by rw [psN_succ]; simp [putsL, pf]
    have hE2 := E_succ l ep i
    have hF : toR (asF 0 (psN l ep i)) ++ [(⟨((i + 1 : Nat) : Int), (ep : Int), txt l i⟩ : S40)] = toR (asF 0 (psN l ep (i + 1))) := by
      rw [psN_succ, asF_append]
      unfold toR
      rw [List.map_append]
      simp [asF, toR1, pf, ba_of]
    rw [hput, Option.bind_some, if_pos rfl]
    dsimp only
    rw [if_pos (show ((ba (putL (i + 1) ep (txt l i).data.toList)).size : Int) = wrap64 (((txt l i).size : Int) + 24) from by rw [ba_size, wrap_24 _ (by omega)]; omega)]
    rw [if_pos (show (ba (putsL (psN l ep i))).size + (ba (putL (i + 1) ep (txt l i).data.toList)).size ≤ 9223372036854775807 from by rw [ba_size, ba_size]; omega),
      if_pos (show (toR (asF 0 (psN l ep i))).length < 4398046511104 from by simp only [toR, List.length_map, asF_length, psN_length]; omega),
      if_pos (show (endsI l ep i).length < 17592186044416 from by rw [endsI_length]; omega), ba_append, ← hnew, hF, wrap_nat i (by omega)]
    have hsz2 : ((ba (putsL (psN l ep (i + 1)))).size : Int) = ((E l ep (i + 1) : Nat) : Int) := by rw [ba_size]; rw [show (putsL (psN l ep (i + 1))).length = E l ep (i + 1) from putsL_length _]
    rw [hsz2, ← endsI_succ]
    exact ih k (i + 1) (by omega) (by omega) (fun j hj => by
      rcases Nat.lt_or_ge j i with h1 | h1
      · exact hs j h1
      · obtain rfl : j = i := by omega
        omega)

theorem GuardBack : ∀ (l : List ByteArray) (a1 : Int) (a2 : ByteArray) (a3 : Int), (Lit.int .u64 a1).wf = true → a2.size ≤ 140737488351232 → (Lit.int .u16 a3).wf = true →
    ∃ k, syzygylaw07_GuardBack.f k l a1 a2 a3 = some true := by
  intro l ep rest cut he hr hc
  obtain ⟨he0, he1⟩ := bounds_u64 he
  obtain ⟨hc0, hc1⟩ := bounds_u16 hc
  obtain ⟨ep, rfl⟩ := Int.eq_ofNat_of_zero_le he0
  obtain ⟨c, rfl⟩ := Int.eq_ofNat_of_zero_le hc0
  refine ⟨200 + 1, ?_⟩
  have shut : syzygylaw07_GuardBack.j0 (200 + 1) l ep c true = some true := by
    simp only [syzygylaw07_GuardBack.j0, if_true, shown_true, Option.bind_some]
  unfold syzygylaw07_GuardBack.f
  by_cases h1 : (l.length : Int) > 20
  · rw [if_pos h1]; exact shut
  rw [if_neg h1]
  by_cases h2 : (rest.size : Int) > 300
  · rw [if_pos h2]; exact shut
  rw [if_neg h2, shown_true, Option.bind_some]
  show syzygylaw07_GuardBack.j0 (200 + 1) l ep c false = some true
  simp only [syzygylaw07_GuardBack.j0, Bool.false_eq_true, if_false]
  have := back_loop l ep c (by omega) (by omega) (by omega) l.length 200 0 (by omega) (by omega) (fun j hj => by omega)
  simpa [psN, putsL, toR, asF, endsI, E, sizes, ba] using this

end Go.Proofs.Ytjkjcimoeohijaa.Pure
