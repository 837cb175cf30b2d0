/- Frames of another epoch, or of another number than the next one, end what All tells: for every list of at most thirty bytes and every epoch (longer lists are let go, as the statement does). -/
import Derived.Test.YtjkjcimoeohijaaPAllx11
import Derived.Test.YtjkjcimoeohijaaGuardF
import Derived.Test.YtjkjcimoeohijaaPuts
import Derived.OpenShut
namespace Go.Proofs.Ytjkjcimoeohijaa.Pure
open Go.RowKit Go.Proofs.Ytjkjcimoeohijaa.PAll Go.Proofs.YtjkjcimoeohijaaW.PrintWords Go.Proofs.YtjkjcimoeohijaaW.PrintLast Go.Proofs.Ytjkjcimoeohijaa.Fr

def empties (ps : List P3) : Prop := ∀ p ∈ ps, p.2.2 = []
theorem sizes_empty : ∀ (ps : List P3), empties ps → sizes ps = 24 * ps.length := by
  intro ps
  induction ps with
  | nil => intro _; rfl
  | cons p ps ih =>
    intro h
    have := ih (fun q hq => h q (by simp [hq]))
    have h0 : p.2.2 = [] := h p (by simp)
    simp only [sizes, h0, List.length_cons, List.length_nil]; omega

theorem all_end (ep : Nat) : ∀ (ps : List P3) (i a : Nat), empties ps → (allL ep i a (asF a ps)).2 = a + 24 * (allL ep i a (asF a ps)).1.length := by
  intro ps
  induction ps with
  | nil => intro i a _; simp [asF, allL]
  | cons p ps ih =>
    intro i a h
    have h0 : p.2.2 = [] := h p (by simp)
    simp only [asF, allL]
    split
    · have := ih (i + 1) (a + (24 + p.2.2.length)) (fun q hq => h q (by simp [hq]))
      have hz : p.2.2.length = 0 := by rw [h0]; rfl
      rw [List.length_cons]
      show (allL ep (i + 1) (a + (24 + p.2.2.length)) (asF (a + (24 + p.2.2.length)) ps)).2 = _
      rw [this]; omega
    · simp

/-- how many are told -/
@[irreducible] def cnt (ep : Nat) (ps : List P3) : Nat := (allL ep 0 0 (asF 0 ps)).1.length
theorem cnt_eq (ep : Nat) (ps : List P3) : cnt ep ps = (allL ep 0 0 (asF 0 ps)).1.length := by unfold cnt; rfl

theorem step (ep q e n i : Nat) (ps : List P3) (hps : ps.length = i) (hn : cnt ep ps = n) :
    cnt ep (ps ++ [(q, e, [])]) = (if n = i ∧ q = i + 1 ∧ e = ep then n + 1 else n) := by
  rw [cnt_eq] at hn ⊢
  rw [asF_append]
  have hl := allL_len ep (asF 0 ps) 0 0
  rw [asF_length] at hl
  by_cases h : n = i
  · have hg := goods_of_len ep (asF 0 ps) 0 0 (by rw [hn, asF_length]; omega)
    rw [allL_goods ep _ 0 0 _ hg]
    have hlen := asF_length ps 0
    simp only [asF, allL, hlen, hps]
    by_cases h2 : q = i + 1 ∧ e = ep
    · rw [if_pos (by simp [good, h2]), if_pos ⟨h, h2⟩]; simp [hlen]; omega
    · rw [if_neg (by simp only [good]; simp; intro h3 h4; exact h2 ⟨h4, h3⟩), if_neg (fun h3 => h2 h3.2)]; simp [hlen]; omega
  · rw [allL_stuck ep _ _ 0 0 (by rw [hn, asF_length]; omega), hn, if_neg (fun h3 => h h3.1)]

theorem wrapu_next (ep : Nat) (h : ep < 18446744073709551616) : ∃ e : Nat, e < 18446744073709551616 ∧ IntKind.u64.wrap ((ep : Int) + 1) = (e : Int) := by
  by_cases h1 : ep + 1 < 18446744073709551616
  · exact ⟨ep + 1, h1, by rw [wrap_u64 (by omega) (by omega)]; omega⟩
  · refine ⟨0, by omega, ?_⟩
    rw [IntKind.wrap_u64]
    omega
theorem wrap_succ (n : Nat) (h : n < 30) : wrap64 ((n : Int) + 1) = ((n + 1 : Nat) : Int) := by rw [wrap_in (by omega) (by omega)]; omega
theorem wrapu_succ (i : Nat) (h : i < 30) : IntKind.u64.wrap (IntKind.u64.wrap (i : Int) + 1) = ((i + 1 : Nat) : Int) := by
  rw [wrap_u64 (x := (i : Int)) (by omega) (by omega), wrap_u64 (by omega) (by omega)]; omega

theorem order_loop (l : List Int) (ep : Nat) (hep : ep < 18446744073709551616) (hl : l.length ≤ 30) (hw : ∀ x ∈ l, (Lit.int .u8 x).wf = true) (d : Nat) :
    ∀ (k i n : Nat) (ps : List P3), ps.length = i → empties ps → (∀ p ∈ ps, p.ok) → cnt ep ps = n → i + d = l.length → 4 * d < k →
      syzygylaw07_GuardOrder.l0 k l ep (ba (putsL ps)) n (decide (n = i)) i = some true := by
  induction d with
  | zero =>
    intro k i n ps hps he hok hn hi hk
    obtain ⟨k, rfl⟩ : ∃ m, k = m + 1 := ⟨k - 1, by omega⟩
    have hs := sizes_empty ps he
    have hpl := putsL_length ps
    have hG := G_puts ps [] 0 hok
    rw [List.append_nil, show G [] (0 + sizes ps) = [] from rfl, List.append_nil] at hG
    rw [cnt_eq] at hn
    simp only [syzygylaw07_GuardOrder.l0]
    rw [if_neg (by omega)]
    unfold guard_All.f
    rw [if_pos (by rw [ba_size]; omega)]
    simp only [Option.bind_some, ba_list, hG, Int.toNat_natCast]
    have he2 := all_end ep ps 0 0 he
    have hn2 := allL_len ep (asF 0 ps) 0 0
    rw [asF_length] at hn2
    rw [if_pos (by simp [toS, hn]), he2, hn, wrap_in (by omega) (by omega)]
    simp
  | succ d ih =>
    intro k i n ps hps he hok hn hi hk
    obtain ⟨k, rfl⟩ : ∃ m, k = m + 4 := ⟨k - 4, by omega⟩
    have hs := sizes_empty ps he
    have hpl := putsL_length ps
    have hn2 := allL_len ep (asF 0 ps) 0 0
    rw [asF_length, ← cnt_eq] at hn2
    have hv : 0 ≤ rd l i ∧ rd l i ≤ 255 := by
      unfold rd
      have : l.getD (i : Int).toNat 0 ∈ l := by
        rw [Int.toNat_natCast, List.getD_eq_getElem?_getD, List.getElem?_eq_getElem (by omega)]
        exact List.getElem_mem _
      exact bounds_u8 (hw _ this)
    obtain ⟨v, hv2⟩ := Int.eq_ofNat_of_zero_le hv.1
    have hni : n ≤ i := by omega
    have hi30 : i < 30 := by omega
    clear hn2
    -- one round behind the choice of number and epoch
    have round : ∀ (q e : Nat), q < 18446744073709551616 → e < 18446744073709551616 →
        syzygylaw07_GuardOrder.j3 (k + 1) l ep (ba (putsL ps)) n (decide (n = i)) i q e = some true := by
      intro q e hq he2
      have hput : guard_Put.f q e (⟨#[]⟩ : ByteArray) = some (ba (putL q e []), 0) := put_some q e ⟨#[]⟩ hq he2 (by decide)
      have hstep := step ep q e n i ps hps hn
      have hnew : putsL (ps ++ [(q, e, [])]) = putsL ps ++ putL q e [] := by simp [putsL]
      have hempt : empties (ps ++ [(q, e, [])]) := by
        intro p hp
        rcases List.mem_append.1 hp with h | h
        · exact he p h
        · rw [List.mem_singleton.1 h]
      have hoks : ∀ p ∈ ps ++ [(q, e, [])], p.ok := by
        intro p hp
        rcases List.mem_append.1 hp with h | h
        · exact hok p h
        · rw [List.mem_singleton.1 h]; exact ⟨hq, he2, by simp⟩
      have hpl2 := putL_length q e []
      simp only [syzygylaw07_GuardOrder.j3]
      rw [hput]
      simp only [Option.bind_some]
      rw [if_pos trivial, if_pos (by rw [ba_size, ba_size]; simp only [List.length_nil] at hpl2; omega), ba_append, ← hnew]
      rw [wrapu_succ i hi30, wrap_succ i hi30, wrap_succ n (Nat.lt_of_le_of_lt hni hi30)]
      have go : ∀ (n' : Nat) (b : Bool), cnt ep (ps ++ [(q, e, [])]) = n' → b = decide (n' = i + 1) → syzygylaw07_GuardOrder.l0 k l ep (ba (putsL (ps ++ [(q, e, [])]))) n' b ((i + 1 : Nat) : Int) = some true := by
        intro n' b h1 h2
        rw [h2]
        exact ih k (i + 1) n' _ (by simp [hps]) hempt hoks h1 (by omega) (by omega)
      by_cases h : n = i
      · rw [if_pos (by simp [h])]
        by_cases h2 : q = i + 1
        · rw [if_pos (by omega)]
          by_cases h3 : e = ep
          · rw [if_pos (by omega)]
            exact go (n + 1) _ (by rw [hstep, if_pos ⟨h, h2, h3⟩]) (by simp [h3, h])
          · rw [if_neg (by omega)]
            exact go n _ (by rw [hstep, if_neg (fun z => h3 z.2.2)]) (by simp [h]; omega)
        · rw [if_neg (by omega)]
          exact go n _ (by rw [hstep, if_neg (fun z => h2 z.2.1)]) (by simp [h])
      · rw [if_neg (by simp [h])]
        exact go n _ (by rw [hstep, if_neg (fun z => h z.1)]) (by simp; omega)
    have mid : ∀ (q : Nat), q < 18446744073709551616 → syzygylaw07_GuardOrder.j2 (k + 2) l ep (ba (putsL ps)) n (decide (n = i)) i q ep = some true := by
      intro q hq
      simp only [syzygylaw07_GuardOrder.j2]
      rw [if_pos (by omega), if_pos (by omega)]
      by_cases h : rd l i > 235
      · rw [if_pos h]
        obtain ⟨e, he2, hw1⟩ := wrapu_next ep hep
        rw [hw1]
        exact round q e hq he2
      · rw [if_neg h]
        exact round q ep hq hep
    show syzygylaw07_GuardOrder.l0 (k + 3 + 1) l ep (ba (putsL ps)) n (decide (n = i)) i = some true
    simp only [syzygylaw07_GuardOrder.l0]
    rw [if_pos (by omega), if_pos (by omega)]
    have hup := syzygylaw07_GuardOrder.mono_l (k + 2)
    by_cases h : rd l i < 20
    · rw [if_pos h, hv2, wrap_u64 (x := (v : Int)) (by omega) (by omega)]
      exact hup.2.2.1 _ _ _ _ _ _ _ _ _ (mid v (by omega))
    · rw [if_neg h, wrapu_succ i hi30]
      exact hup.2.2.1 _ _ _ _ _ _ _ _ _ (mid (i + 1) (by omega))

theorem GuardOrder : syzygylaw07_GuardOrder.Pure := by
  intro l ep _ _ hw hwe
  obtain ⟨h0, h1⟩ := bounds_u64 hwe
  obtain ⟨ep, rfl⟩ := Int.eq_ofNat_of_zero_le h0
  refine ⟨200, ?_⟩
  unfold syzygylaw07_GuardOrder.f
  rw [shown_true]
  by_cases h : (l.length : Int) > 30
  · rw [if_pos h]
    show syzygylaw07_GuardOrder.j0 (199 + 1) l ep true = some true
    simp only [syzygylaw07_GuardOrder.j0, if_true, shown_true, Option.bind_some]
  · rw [if_neg h]
    simp only [Option.bind_some, Bool.not_true]
    show syzygylaw07_GuardOrder.j0 (199 + 1) l ep false = some true
    simp only [syzygylaw07_GuardOrder.j0, Bool.false_eq_true, if_false]
    have := order_loop l ep (by omega) (by omega) hw l.length 199 0 0 [] rfl (by intro p hp; simp at hp) (by intro p hp; simp at hp) (by rw [cnt_eq]; simp [asF, allL]) (by omega) (by omega)
    simpa [putsL, ba] using this

end Go.Proofs.Ytjkjcimoeohijaa.Pure
