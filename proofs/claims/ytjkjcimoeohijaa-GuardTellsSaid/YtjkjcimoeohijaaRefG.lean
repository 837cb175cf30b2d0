/- Plain: the document's own All (package syzygyref07), and the law's helpers theirs and Same, as printed: the same frames as guard's. -/
import Derived.Test.YtjkjcimoeohijaaRefF
namespace Go.Proofs.Ytjkjcimoeohijaa.Pure
open Go.RowKit Go.Proofs.Ytjkjcimoeohijaa.PAll Go.Proofs.YtjkjcimoeohijaaW.PrintWords Go.Proofs.YtjkjcimoeohijaaW.PrintLast Go.Proofs.Ytjkjcimoeohijaa.Fr

def toR1 (x : F4) : S40 := ⟨(x.2.1 : Int), (x.2.2.1 : Int), ba x.2.2.2⟩
def toR (l : List F4) : List S40 := l.map toR1

theorem wrapu_len (n : Nat) (h : n < 1000000) : IntKind.u64.wrap (IntKind.u64.wrap (n : Int) + 1) = ((n + 1 : Nat) : Int) := by
  rw [wrap_u64 (x := (n : Int)) (by omega) (by omega), wrap_u64 (by omega) (by omega)]; omega
theorem wrap_at (a t : Nat) (ha : a < 1000000) (ht : t < 1000000) : wrap64 (wrap64 ((a : Int) + 24) + (t : Int)) = ((a + (24 + t) : Nat) : Int) := by
  rw [wrap_in (x := (a : Int) + 24) (by omega) (by omega), wrap_in (by omega) (by omega)]; omega

theorem refall_loop (s : ByteArray) (hs : s.size ≤ 100000) (ep : Nat) : ∀ (d k a : Nat) (pre : List F4), s.size - a ≤ d → d < k → a ≤ s.size → pre.length ≤ a →
    syzygyref07_All.l0 k s ep (toR pre) a = some (toR (pre ++ (allL ep pre.length a (G (s.data.toList.drop a) a)).1), ((allL ep pre.length a (G (s.data.toList.drop a) a)).2 : Int)) := by
  intro d
  induction d with
  | zero =>
    intro k a pre hd hk ha hpl
    obtain ⟨k, rfl⟩ : ∃ m, k = m + 1 := ⟨k - 1, by omega⟩
    have hz : (s.data.toList.drop a).length = 0 := by rw [List.length_drop, list_size]; omega
    have he : (s.extract a s.size).data.toList = s.data.toList.drop a := by rw [extract_list, ← list_size, List.take_length]
    have hf := firstL_empty hz
    simp only [syzygyref07_All.l0]
    rw [if_pos (by omega), if_pos (by omega), Int.toNat_natCast, reffirst_some _ (by rw [ByteArray.size_extract]; omega), he, hf, Option.bind_some]
    rw [if_neg (by simp [asV]), G_no (by rw [hf]; simp)]
    simp [allL]
  | succ d ih =>
    intro k a pre hd hk ha hpl
    obtain ⟨k, rfl⟩ : ∃ m, k = m + 1 := ⟨k - 1, by omega⟩
    have he : (s.extract a s.size).data.toList = s.data.toList.drop a := by rw [extract_list, ← list_size, List.take_length]
    simp only [syzygyref07_All.l0]
    rw [if_pos (by omega), if_pos (by omega), Int.toNat_natCast, reffirst_some _ (by rw [ByteArray.size_extract]; omega), he, Option.bind_some]
    have hr := first_rest (s := s.data.toList.drop a)
    have hok := @G_ok (s.data.toList.drop a) a
    have hno := @G_no (s.data.toList.drop a) a
    unfold nextL at hok
    rcases hf : firstL (s.data.toList.drop a) with ⟨q, e, t, r, x⟩
    rw [hf] at hr hok hno
    dsimp only at hr hok hno
    by_cases hx : x = 0
    · subst hx
      obtain ⟨_, hl, _⟩ := hr rfl
      rw [List.length_drop, list_size] at hl
      rw [if_pos (show (asV (q, e, t, r, 0)).2.2.2.2 = 0 from rfl), hok rfl]
      have hlen : ((toR pre).length : Int) = (pre.length : Int) := by simp [toR]
      rw [hlen, wrapu_len _ (by omega)]
      simp only [allL]
      by_cases h1 : e = ep
      · rw [if_pos (show (asV (q, e, t, r, 0)).2.1 = (ep : Int) from by show (e : Int) = (ep : Int); omega)]
        by_cases h2 : q = pre.length + 1
        · rw [if_pos (show (asV (q, e, t, r, 0)).1 = ((pre.length + 1 : Nat) : Int) from by show (q : Int) = ((pre.length + 1 : Nat) : Int); omega), if_pos (show (toR pre).length < 4398046511104 from by simp only [toR, List.length_map]; omega), if_pos (show good ep pre.length (a + (24 + t.length), q, e, t) = true from by simp [good, h1, h2])]
          have hsz : ((asV (q, e, t, r, 0)).2.2.1.size : Int) = (t.length : Int) := by show ((ba t).size : Int) = _; rw [ba_size]
          rw [hsz, wrap_at a t.length (by omega) (by omega)]
          have hnew : toR pre ++ [(⟨(asV (q, e, t, r, 0)).1, (asV (q, e, t, r, 0)).2.1, (asV (q, e, t, r, 0)).2.2.1⟩ : S40)] = toR (pre ++ [(a + (24 + t.length), q, e, t)]) := by simp [toR, toR1, asV]
          rw [hnew, ih k (a + (24 + t.length)) _ (by omega) (by omega) (by omega) (by simp; omega)]
          rw [List.drop_drop, List.length_append, List.length_singleton, List.append_assoc]
          rfl
        · rw [if_neg (show ¬ (asV (q, e, t, r, 0)).1 = ((pre.length + 1 : Nat) : Int) from by show ¬ (q : Int) = ((pre.length + 1 : Nat) : Int); omega), if_neg (show ¬ good ep pre.length (a + (24 + t.length), q, e, t) = true from by simp [good]; intro _; exact h2)]
          simp
      · rw [if_neg (show ¬ (asV (q, e, t, r, 0)).2.1 = (ep : Int) from by show ¬ (e : Int) = (ep : Int); omega), if_neg (show ¬ good ep pre.length (a + (24 + t.length), q, e, t) = true from by simp [good, h1])]
        simp
    · rw [if_neg (show ¬ (asV (q, e, t, r, x)).2.2.2.2 = 0 from by show ¬ (x : Int) = 0; omega), hno hx]
      simp [allL]

theorem refall_some (s : ByteArray) (hs : s.size ≤ 100000) (ep k : Nat) (hk : s.size < k) :
    syzygyref07_All.f k s ep = some (toR (allL ep 0 0 (G s.data.toList 0)).1, ((allL ep 0 0 (G s.data.toList 0)).2 : Int)) := by
  have := refall_loop s hs ep s.size k 0 [] (by omega) hk (by omega) (by simp)
  simpa [syzygyref07_All.f, toR] using this

theorem theirs_loop (l : List F4) (hl : l.length ≤ 100000) (d : Nat) : ∀ (k i : Nat), i + d = l.length → d < k →
    syzygylaw07_theirs.l0 k (toS l) (toR (l.take i)) i = some (toR l) := by
  have hlen : (toS l).length = l.length := by simp [toS]
  induction d with
  | zero =>
    intro k i hi hk
    obtain ⟨k, rfl⟩ : ∃ m, k = m + 1 := ⟨k - 1, by omega⟩
    simp only [syzygylaw07_theirs.l0]
    rw [if_neg (by omega), List.take_of_length_le (by omega)]
  | succ d ih =>
    intro k i hi hk
    obtain ⟨k, rfl⟩ : ∃ m, k = m + 1 := ⟨k - 1, by omega⟩
    have hil : i < l.length := by omega
    simp only [syzygylaw07_theirs.l0]
    rw [if_pos (by omega), if_pos (by omega), if_pos (by simp [toR]; omega), wrap_in (x := (i : Int) + 1) (by omega) (by omega)]
    have hn : toR (l.take i) ++ [(⟨(rd_T29 (toS l) i).f0, (rd_T29 (toS l) i).f1, (rd_T29 (toS l) i).f2⟩ : S40)] = toR (l.take (i + 1)) := by
      have hr : rd_T29 (toS l) i = ⟨(l[i].2.1 : Int), (l[i].2.2.1 : Int), ba l[i].2.2.2⟩ := by
        unfold rd_T29 toS
        rw [Int.toNat_natCast, List.getD_eq_getElem?_getD, List.getElem?_map, List.getElem?_eq_getElem hil]; rfl
      rw [hr, List.take_add_one, List.getElem?_eq_getElem hil]
      unfold toR
      rw [List.map_append]
      rfl
    rw [hn]
    exact ih k (i + 1) (by omega) (by omega)

theorem theirs_some (l : List F4) (hl : l.length ≤ 100000) (k : Nat) (hk : l.length < k) : syzygylaw07_theirs.f k (toS l) = some (toR l) := by
  have := theirs_loop l hl l.length k 0 (by omega) hk
  simpa [syzygylaw07_theirs.f, toR] using this

theorem same_loop (l : List S40) (hl : l.length ≤ 100000) (d : Nat) : ∀ (k i : Nat), i + d = l.length → d < k → syzygyref07_Same.l0 k l l i = some true := by
  induction d with
  | zero =>
    intro k i hi hk
    obtain ⟨k, rfl⟩ : ∃ m, k = m + 1 := ⟨k - 1, by omega⟩
    simp only [syzygyref07_Same.l0]
    rw [if_neg (by omega)]
  | succ d ih =>
    intro k i hi hk
    obtain ⟨k, rfl⟩ : ∃ m, k = m + 1 := ⟨k - 1, by omega⟩
    simp only [syzygyref07_Same.l0]
    rw [if_pos (by omega), if_pos (by omega), if_pos (by omega), if_neg (by simp), wrap_in (x := (i : Int) + 1) (by omega) (by omega)]
    exact ih k (i + 1) (by omega) (by omega)
theorem same_some (l : List S40) (hl : l.length ≤ 100000) (k : Nat) (hk : l.length < k) : syzygyref07_Same.f k l l = some true := by
  unfold syzygyref07_Same.f
  rw [if_pos rfl]
  exact same_loop l hl l.length k 0 (by omega) hk

end Go.Proofs.Ytjkjcimoeohijaa.Pure
