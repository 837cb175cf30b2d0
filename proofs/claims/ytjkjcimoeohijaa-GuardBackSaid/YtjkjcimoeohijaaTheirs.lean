/- Plain: the law's helpers theirs and Same, as printed: the frames themselves, and that they are the same. -/
import Derived.Test.YtjkjcimoeohijaaGuardF
import Derived.Test.YtjkjcimoeohijaaPAllx18
import Derived.Test.YtjkjcimoeohijaaPAllx21
import Derived.Test.YtjkjcimoeohijaaPAllx20
namespace Go.Proofs.Ytjkjcimoeohijaa.Pure
open Go.RowKit Go.Proofs.Ytjkjcimoeohijaa.PAll Go.Proofs.YtjkjcimoeohijaaW.PrintWords Go.Proofs.YtjkjcimoeohijaaW.PrintLast Go.Proofs.Ytjkjcimoeohijaa.Fr

def toR1 (x : F4) : S40 := ⟨(x.2.1 : Int), (x.2.2.1 : Int), ba x.2.2.2⟩
def toR (l : List F4) : List S40 := l.map toR1

theorem wrapu_len (n : Nat) (h : n < 1000000) : IntKind.u64.wrap (IntKind.u64.wrap (n : Int) + 1) = ((n + 1 : Nat) : Int) := by
  rw [wrap_u64 (x := (n : Int)) (by omega) (by omega), wrap_u64 (by omega) (by omega)]; omega
theorem wrap_at (a t : Nat) (ha : a < 1000000) (ht : t < 1000000) : wrap64 (wrap64 ((a : Int) + 24) + (t : Int)) = ((a + (24 + t) : Nat) : Int) := by
  rw [wrap_in (x := (a : Int) + 24) (by omega) (by omega), wrap_in (by omega) (by omega)]; omega

theorem theirs_loop (l : List F4) (hl : l.length ≤ 100000) (d : Nat) : ∀ (k i : Nat), i + d = l.length → d < k →
    syzygylaw07_theirs.l0 k (toS l) (toR (l.take i)) i = some (toR l) := by
  have hlen : (toS l).length = l.length := by simp [toS]
  induction d with
  | zero =>
    intro k i hi hk
    obtain ⟨k, rfl⟩ : ∃ m, k = m + 1 := ⟨k - 1, by omega⟩
    simp only [syzygylaw07_theirs.l0]
    rw [if_neg (by omega), List.take_of_length_le (by omega)]
  | succ d ih =>
    intro k i hi hk
    obtain ⟨k, rfl⟩ : ∃ m, k = m + 1 := ⟨k - 1, by omega⟩
    have hil : i < l.length := by omega
    simp only [syzygylaw07_theirs.l0]
    rw [if_pos (by omega), if_pos (by omega), if_pos (by simp [toR]; omega), wrap_in (x := (i : Int) + 1) (by omega) (by omega)]
    have hn : toR (l.take i) ++ [(⟨(rd_T29 (toS l) i).f0, (rd_T29 (toS l) i).f1, (rd_T29 (toS l) i).f2⟩ : S40)] = toR (l.take (i + 1)) := by
      have hr : rd_T29 (toS l) i = ⟨(l[i].2.1 : Int), (l[i].2.2.1 : Int), ba l[i].2.2.2⟩ := by
        unfold rd_T29 toS
        rw [Int.toNat_natCast, List.getD_eq_getElem?_getD, List.getElem?_map, List.getElem?_eq_getElem hil]; rfl
      rw [hr, List.take_add_one, List.getElem?_eq_getElem hil]
      unfold toR
      rw [List.map_append]
      rfl
    rw [hn]
    exact ih k (i + 1) (by omega) (by omega)

theorem theirs_some (l : List F4) (hl : l.length ≤ 100000) (k : Nat) (hk : l.length < k) : syzygylaw07_theirs.f k (toS l) = some (toR l) := by
  have := theirs_loop l hl l.length k 0 (by omega) hk
  simpa [syzygylaw07_theirs.f, toR] using this

theorem same_loop (l : List S40) (hl : l.length ≤ 100000) (d : Nat) : ∀ (k i : Nat), i + d = l.length → d < k → syzygyref07_Same.l0 k l l i = some true := by
  induction d with
  | zero =>
    intro k i hi hk
    obtain ⟨k, rfl⟩ : ∃ m, k = m + 1 := ⟨k - 1, by omega⟩
    simp only [syzygyref07_Same.l0]
    rw [if_neg (by omega)]
  | succ d ih =>
    intro k i hi hk
    obtain ⟨k, rfl⟩ : ∃ m, k = m + 1 := ⟨k - 1, by omega⟩
    simp only [syzygyref07_Same.l0]
    rw [if_pos (by omega), if_pos (by omega), if_pos (by omega), if_neg (by simp), wrap_in (x := (i : Int) + 1) (by omega) (by omega)]
    exact ih k (i + 1) (by omega) (by omega)
theorem same_some (l : List S40) (hl : l.length ≤ 100000) (k : Nat) (hk : l.length < k) : syzygyref07_Same.f k l l = some true := by
  unfold syzygyref07_Same.f
  rw [if_pos rfl]
  exact same_loop l hl l.length k 0 (by omega) hk

end Go.Proofs.Ytjkjcimoeohijaa.Pure
