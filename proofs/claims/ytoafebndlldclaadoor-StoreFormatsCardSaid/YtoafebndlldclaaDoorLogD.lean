/- Plain: a log opened and appended to where nothing fails; what is told then. No program in sight. -/
import Derived.Test.YtoafebndlldclaaDoorPa
namespace Go.Proofs.YtoafebndlldclaaDoor.Wl
open Dk Fr

def cutL (l : List Bs) : List Bs := (l.take 8).map fun t => t.take 90
def prefB (l p : List Bs) : Bool := decide (p = l.take p.length)

/-! ### plain -/
theorem bytes_new (n : Nat) : ∀ (k i : Nat), i + k ≤ n → bytesOf (new n) i k = zeros (64 * k) := by
  intro k
  induction k with
  | zero => intro i _; rfl
  | succ k ih =>
    intro i hi
    simp only [bytesOf]
    rw [ih (i + 1) (by omega)]
    have : sect (new n) i = zeros 64 := by
      rw [(synced_new n).sect]
      unfold new
      simp only [List.getD_eq_getElem?_getD]
      rw [List.getElem?_replicate_of_lt (by omega)]; rfl
    rw [this, zeros_add]
    congr 1
    omega
theorem new_calm {n : Nat} (h1 : 1 ≤ n) (h2 : n ≤ 4096) : Calm (new n) := ⟨new_ok h1 h2, rfl, synced_new n⟩
theorem new_len (n : Nat) : (new n).olds.length = n := by simp [new]
theorem told_zeros {ep : Nat} (hep : ep < 18446744073709551616) (m : Nat) : told ep (zeros m) = [] := by
  have := told_just hep [] (zeros m) (by simp) (by simp) (stops_zeros _ _ _)
  simpa [enc] using this
theorem told_other {ep ep' : Nat} (h : ep ≠ ep') (h1 : ep < 18446744073709551616) (h2 : ep' < 18446744073709551616) (recs : List Bs) (m : Nat) (hs : ∀ t ∈ recs, t.length ≤ 8192) : told ep' (enc ep 0 recs ++ zeros m) = [] := by
  cases recs with
  | nil => simpa [enc] using told_zeros h2 m
  | cons t l =>
    have := told_just h2 [] (enc ep 0 (t :: l) ++ zeros m) (by simp) (by simp) (stops_other h h1 0 _ t l _ (hs t (by simp)) (by decide))
    simpa [enc] using this

/-- what Open gives, where nothing fails -/
structure Opened (fr to_ ep : Nat) (recs : List Bs) (D D' : DS) (L : LS) : Prop where
  good : Good D' L recs
  efr : L.fr = fr
  eto : L.to_ = to_
  eep : L.ep = ep
  beside : Beside fr to_ D D'
theorem open_ok {D : DS} (h : Calm D) {fr to_ ep : Nat} (hft : fr < to_) (hto : to_ ≤ D.olds.length) (hep : ep < 18446744073709551616) (hf : D.fuse = 0) {recs : List Bs} (hr : told ep (bytesOf D fr (to_ - fr)) = recs) :
    ∃ D' L, openL D fr to_ ep = (D', some L, recs, 0) ∧ Opened fr to_ ep recs D D' L := by
  subst hr
  have e1 : openL D fr to_ ep = openAt D fr to_ ep := by
    unfold openL
    rw [if_neg (by omega), if_neg (by rw [h.up]; simp), Int.toNat_natCast, Int.toNat_natCast]
  rcases openAt_spec h hft hto hep with ⟨L, h1, h2, h3, h4, h5, h6⟩ | ⟨_, h2⟩
  · refine ⟨(openAt D fr to_ ep).1, L, ?_, h2, h3, h4, h5, h6⟩
    rw [e1]
    exact Prod.ext rfl h1
  · exact absurd hf h2.fuse
theorem append_ok {D : DS} {L : LS} {recs texts : List Bs} (h : Good D L recs) (hf : D.fuse = 0) (hs : ∀ t ∈ texts, t.length ≤ 8192) (hfit : szs recs + szs texts ≤ 64 * (L.to_ - L.fr)) :
    ∃ D' L', appendL D L texts = (D', L', 0) ∧ Opened L.fr L.to_ L.ep (recs ++ texts) D D' L' := by
  have := append_spec h texts hs
  cases hR : appendL D L texts with
  | mk D' R =>
    obtain ⟨L', x⟩ := R
    rw [hR] at this
    cases this with
    | ok _ _ h1 h2 h3 h4 h5 h6 => exact ⟨D', L', rfl, h2, h4, h5, h6, h3⟩
    | full h1 => omega
    | off _ h1 h2 => exact absurd hf h2.fuse
theorem append_full {D : DS} {L : LS} {recs texts : List Bs} (h : Good D L recs) (hs : ∀ t ∈ texts, t.length ≤ 8192) (hfit : 64 * (L.to_ - L.fr) < szs recs + szs texts) : appendL D L texts = (D, L, 2) := by
  have := append_spec h texts hs
  cases hR : appendL D L texts with
  | mk D' R =>
    obtain ⟨L', x⟩ := R
    rw [hR] at this
    cases this with
    | ok _ _ h1 => omega
    | full h1 => rfl
    | off _ h1 => omega
theorem reopen_ok {D : DS} {L : LS} {recs : List Bs} (h : Good D L recs) (hf : D.fuse = 0) : ∃ D' L', openL D L.fr L.to_ L.ep = (D', some L', recs, 0) ∧ Opened L.fr L.to_ L.ep recs D D' L' :=
  open_ok h.calm h.lt h.hi h.ep hf h.told
theorem szs_cut (l : List Bs) : szs (cutL l) ≤ 912 := by
  have : ∀ m : List Bs, szs (m.map fun t => t.take 90) ≤ 114 * m.length := by
    intro m
    induction m with
    | nil => simp [szs]
    | cons t m ih =>
      simp only [List.map_cons, szs, List.length_cons, List.length_take]
      omega
  have h := this (l.take 8)
  unfold cutL
  rw [List.length_take] at h
  omega
theorem cut_small (l : List Bs) : ∀ t ∈ cutL l, t.length ≤ 90 := by
  intro t ht
  unfold cutL at ht
  obtain ⟨s, _, rfl⟩ := List.mem_map.1 ht
  rw [List.length_take]
  omega
theorem cut_len (l : List Bs) : (cutL l).length ≤ 8 := by unfold cutL; rw [List.length_map, List.length_take]; omega

end Go.Proofs.YtoafebndlldclaaDoor.Wl
