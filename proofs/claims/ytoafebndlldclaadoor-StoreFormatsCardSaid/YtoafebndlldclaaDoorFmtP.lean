/- Plain: what becomes of a disk whose Format the power may break, and of the store that is begun on it then. No program in sight. -/
import Derived.Test.YtoafebndlldclaaDoorStoreP
import Derived.Test.YtoafebndlldclaaDoorTellP
namespace Go.Proofs.YtoafebndlldclaaDoor.St
open Dk Fr Wl

theorem clean_zeros {D : DS} (hup : D.off = false) (en fr : Nat) : ∀ (m k : Nat), fr + k + m ≤ D.olds.length → (∀ j, k ≤ j → j < k + m → sect D (fr + j) = zeros 64) → cleanGo en fr m k D false = (D, 0) := by
  intro m
  induction m with
  | zero => intro k _ _; simp [cleanGo]
  | succ m ih =>
    intro k hk hz
    have hr : read D (fr + k : Nat) = (zeros 64, 0) := by
      unfold Dk.read
      rw [if_neg (by rw [within_some hup (by omega) (by omega)]; simp), Int.toNat_natCast, hz k (Nat.le_refl _) (by omega)]
    simp only [cleanGo, hr]
    rw [if_neg (by simp), if_pos ((clean0_iff _ _ _).2 (fun x hx => by
      have := List.mem_of_mem_drop hx
      exact (List.mem_replicate.1 this).2))]
    exact ih (k + 1) (by omega) (fun j h1 h2 => hz j (by omega) (by omega))
theorem bytes_zero {D : DS} : ∀ (k i : Nat), (∀ j, j < k → sect D (i + j) = zeros 64) → bytesOf D i k = zeros (64 * k) := by
  intro k
  induction k with
  | zero => intro i _; rfl
  | succ k ih =>
    intro i h
    rw [bytesOf_snoc, ih i (fun j hj => h j (by omega)), h k (by omega), zeros_add]
    congr 1
theorem openL_zeros {D : DS} (h : Calm D) {fr to_ ep : Nat} (hft : fr < to_) (hto : to_ ≤ D.olds.length) (hep : ep < 18446744073709551616) (hz : ∀ i, fr ≤ i → i < to_ → sect D i = zeros 64) : ∃ L, openL D fr to_ ep = (D, some L, [], 0) ∧ Opened fr to_ ep [] D D L := by
  have hb : bytesOf D fr (to_ - fr) = zeros (64 * (to_ - fr)) := bytes_zero _ _ (fun j hj => hz _ (by omega) (by omega))
  have hc : ∀ en, clean D fr to_ en = (D, 0) := fun en => clean_zeros h.up en fr _ 0 (by omega) (fun j _ hj => hz _ (by omega) (by omega))
  have ht : told ep (bytesOf D fr (to_ - fr)) = [] := by rw [hb]; exact told_zeros hep _
  have e1 : openL D fr to_ ep = openAt D fr to_ ep := by
    unfold openL
    rw [if_neg (by omega), if_neg (by rw [h.up]; simp)]
    rfl
  have hsp := openAt_spec h hft hto hep
  obtain ⟨L, hL⟩ : ∃ L, openAt D fr to_ ep = (D, some L, [], 0) := by
    unfold openAt
    rw [hc, ht]
    exact ⟨_, rfl⟩
  rw [hL, ht] at hsp
  refine ⟨L, by rw [e1, hL], ?_⟩
  rcases hsp with ⟨L2, h1, h2, h6, h3, h4, h5⟩ | ⟨h1, _⟩
  · have : L2 = L := by
      have := congrArg (fun x => x.1) h1
      simpa using this.symm
    subst this
    exact ⟨h2, h6, h3, h4, h5⟩
  · have := congrArg (fun x => x.2.2) h1
    simp at this

/-- with the power on again behind a Format -/
structure FmtOn (t : Bs) (ok : Bool) (fates : List Int) (D : DS) : Prop where
  calm : Calm D
  fuse : D.fuse = 0
  len : D.olds.length = 40
  far : ∀ i, 10 ≤ i → i < 40 → sect D i = zeros 64
  yes : ok = true → snapOf (bytesOf D 0 10) = (1, t)
  no : ok = false → fates = [] → (snapOf (bytesOf D 0 10)).1 = 0

theorem slot40 : slotN 40 = 10 := by decide
theorem calm_on {D : DS} (hc : Calm D) (fates : List Int) : ∃ D', on (Dk.cut D) fates = (D', 0) ∧ Calm D' ∧ D'.fuse = 0 ∧ D'.olds.length = D.olds.length ∧ ∀ i, sect D' i = sect D i := by
  have hs : Synced (Dk.cut D) := hc.syn
  have hon : on (Dk.cut D) fates = ({ olds := D.olds, news := D.news.map fun _ => none, fuse := 0, off := false }, 0) := by
    unfold Dk.on
    rw [if_pos (show (Dk.cut D).off = true from rfl), hs.dirty]
    rfl
  have hok : ({ olds := D.olds, news := D.news.map fun _ => none, fuse := 0, off := false } : DS).Ok := by
    have := (hc.ok.cut).on fates
    rw [hon] at this
    exact this
  refine ⟨_, hon, ⟨hok, rfl, synced_map D.news⟩, rfl, rfl, fun i => ?_⟩
  rw [Synced.sect (D := { olds := D.olds, news := D.news.map fun _ => none, fuse := 0, off := false }) (synced_map D.news) i, hc.syn.sect]

theorem sect_new (n i : Nat) (h : i < n) : sect (new n) i = zeros 64 := by
  rw [(synced_new n).sect]
  simp [new, h]

theorem fmt_on {t : Bs} (ht : t.length ≤ 120) {f : Nat} (hf : f ≤ 9223372036854775807) (fates : List Int) :
    ∃ D1 o1 x1 D2, formatS (setFuse (new 40) (f : Int)) t = (D1, o1, x1) ∧ on (Dk.cut D1) fates = (D2, 0) ∧ FmtOn t (decide (x1 = 0)) fates D2 ∧ (x1 = 0 ↔ o1.isSome = true) := by
  have hD : setFuse (new 40) (f : Int) = { new 40 with fuse := f } := by unfold setFuse; rw [Int.toNat_natCast]
  rw [hD]
  obtain ⟨D0, hD0⟩ : ∃ D0, D0 = ({ new 40 with fuse := f } : DS) := ⟨_, rfl⟩
  have hc : Calm D0 := by rw [hD0]; exact calm_fuse (new_calm (n := 40) (by omega) (by omega)) hf
  have hl : D0.olds.length = 40 := by rw [hD0]; exact new_len 40
  have hz : ∀ i, i < 40 → sect D0 i = zeros 64 := by
    intro i hi
    rw [hD0]
    exact sect_new 40 i hi
  have hb0 : ∀ i k, i + k ≤ 40 → bytesOf D0 i k = zeros (64 * k) := fun i k h => bytes_zero k i (fun j hj => hz _ (by omega))
  rw [← hD0]
  have hheld : heldD D0 = 0 := by
    unfold heldD
    rw [hl, slot40, if_neg (by omega), if_neg (by rw [hc.up]; simp)]
  have hfound : foundD D0 = (0, [], -1) := found_zeros (by rw [hl, slot40]; exact hb0 _ _ (by omega)) (by rw [hl, slot40]; exact hb0 _ _ (by omega))
  have hpl := putL_length 1 1 t
  have hsp := putsGo_spec (fr := 0) (to_ := 10) (en := 0) hc (by omega) 0 (putL 1 1 t) (by omega) (by omega) (fun j hj => by
    have : keepN 0 (0 + j - 0) = 0 := by unfold keepN; omega
    rw [this]
    exact ⟨by omega, by simp⟩)
  have hput : putS D0 0 1 t = if (putsGo D0 0 (putL 1 1 t)).2 = true then ((putsGo D0 0 (putL 1 1 t)).1, none, 180)
      else ((openL (putsGo D0 0 (putL 1 1 t)).1 ((20 : Nat) : Int) ((40 : Nat) : Int) 1).1, (openL (putsGo D0 0 (putL 1 1 t)).1 ((20 : Nat) : Int) ((40 : Nat) : Int) 1).2.1, (openL (putsGo D0 0 (putL 1 1 t)).1 ((20 : Nat) : Int) ((40 : Nat) : Int) 1).2.2.2) := by
    unfold putS
    rw [hl, slot40, if_neg (by omega), if_neg (by omega), Nat.zero_mul]
  have hform : formatS D0 t = if (putS D0 0 1 t).2.2 ≠ 0 then ((putS D0 0 1 t).1, none, (putS D0 0 1 t).2.2)
      else ((putS D0 0 1 t).1, (putS D0 0 1 t).2.1.map fun L => ⟨L, 1, 0, false⟩, 0) := by
    unfold formatS
    rw [if_neg (by rw [hheld]; simp), if_neg (by rw [hfound]; simp)]
  rcases hsp with ⟨e1, hd⟩ | ⟨e1, hfl⟩
  · rw [if_neg (by rw [e1]; simp)] at hput
    generalize hD1 : (putsGo D0 0 (putL 1 1 t)).1 = D1 at *
    have hl1 : D1.olds.length = 40 := hd.len.trans hl
    have hfar : ∀ i, 10 ≤ i → i < 40 → sect D1 i = zeros 64 := fun i h1 h2 => by rw [hd.other i (by omega) (by omega)]; exact hz i h2
    obtain ⟨L, hL, _⟩ := openL_zeros hd.calm (fr := 20) (to_ := 40) (ep := 1) (by omega) (by omega) (by omega) (fun i h1 h2 => hfar i (by omega) h2)
    rw [hL] at hput
    rw [hput, if_neg (by simp)] at hform
    obtain ⟨D2, o1, o2, o3, o4, o5⟩ := calm_on hd.calm fates
    refine ⟨_, _, _, D2, hform, o1, ⟨o2, o3, o4.trans hl1, fun i h1 h2 => (o5 i).trans (hfar i h1 h2), fun _ => ?_, fun h => by simp at h⟩, by simp⟩
    obtain ⟨rest, hb⟩ := bytes_begin (D := D2) 0 10 (putL 1 1 t) (by omega) (fun j hj => by rw [o5]; exact hd.at_ j hj)
    rw [hb]
    exact snap_put (by omega) (by omega)
  · rw [if_pos e1] at hput
    rw [hput, if_pos (by simp)] at hform
    generalize hD1 : (putsGo D0 0 (putL 1 1 t)).1 = D1 at *
    obtain ⟨n1, n2, n3, n4, _, n6, n7⟩ := hfl.near.on hfl.off fates
    have hcut : Dk.cut D1 = D1 := cut_off hfl.off
    refine ⟨_, _, _, (on D1 fates).1, hform, by rw [hcut]; exact Prod.ext rfl n1, ⟨n2, n3, n4.trans hl, fun i h1 h2 => ?_, fun h => by simp at h, fun _ hf => ?_⟩, by simp⟩
    · rw [n6 i (by omega) (by omega), ← hc.syn.sect]
      exact hz i h2
    · have := n7 hf
      have hb : bytesOf (on D1 fates).1 0 10 = zeros 640 := bytes_zero 10 0 (fun j hj => by rw [n2.syn.sect, this, ← hc.syn.sect]; exact hz _ (by omega))
      rw [hb]
      exact (snap_zeros 640).1

section
variable {t : Bs} {ok : Bool} {fates : List Int} {D : DS}
theorem FmtOn.held (h : FmtOn t ok fates D) : heldD D = 0 := by
  unfold heldD
  rw [h.len, slot40, if_neg (by omega), if_neg (by rw [h.calm.up]; simp)]
theorem FmtOn.found (h : FmtOn t ok fates D) : foundD D = if 0 < (snapOf (bytesOf D 0 10)).1 then ((snapOf (bytesOf D 0 10)).1, (snapOf (bytesOf D 0 10)).2, 0) else (0, [], -1) := by
  have hb : bytesOf D 10 10 = zeros 640 := bytes_zero 10 10 (fun j hj => h.far _ (by omega) (by omega))
  have hz := snap_zeros 640
  unfold foundD pick2
  rw [h.len, slot40, hb, hz.1]
  rw [if_neg (by split <;> omega)]
theorem snap_lt (s : Bs) : (snapOf s).1 < 18446744073709551616 := by
  unfold snapOf
  split
  · rename_i h
    rcases hf : firstL s with ⟨q, e, t, r, x⟩
    rw [hf] at h
    simp only at h ⊢
    obtain ⟨h0, _⟩ := h
    subst h0
    obtain ⟨_, hq, he, _⟩ := put_first hf
    exact he
  · simp
/-- what is told then, and what may be done -/
theorem FmtOn.open_ (h : FmtOn t ok fates D) : (0 < (snapOf (bytesOf D 0 10)).1 ∧ ∃ S, openS D = (D, some S, (snapOf (bytesOf D 0 10)).2, [], 0)) ∨ ((snapOf (bytesOf D 0 10)).1 = 0 ∧ openS D = (D, none, [], [], 200)) := by
  have hf := h.found
  by_cases h0 : 0 < (snapOf (bytesOf D 0 10)).1
  · refine .inl ⟨h0, ?_⟩
    rw [if_pos h0] at hf
    obtain ⟨L, hL, _⟩ := openL_zeros h.calm (fr := 20) (to_ := 40) (ep := (snapOf (bytesOf D 0 10)).1) (by omega) (by rw [h.len]; omega) (snap_lt _) (fun i h1 h2 => h.far i (by omega) h2)
    refine ⟨⟨L, (snapOf (bytesOf D 0 10)).1, 0, false⟩, ?_⟩
    unfold openS
    rw [if_neg (by rw [h.held]; simp), if_neg (by rw [hf]; simp), hf, h.len, slot40]
    simp only
    rw [hL]
    simp
  · refine .inr ⟨by omega, ?_⟩
    rw [if_neg h0] at hf
    unfold openS
    rw [if_neg (by rw [h.held]; simp), if_pos (by rw [hf]; simp)]
theorem FmtOn.twice (h : FmtOn t ok fates D) (h0 : 0 < (snapOf (bytesOf D 0 10)).1) (text : Bs) : formatS D text = (D, none, 4) := by
  have hf := h.found
  rw [if_pos h0] at hf
  unfold formatS
  rw [if_neg (by rw [h.held]; simp), if_pos (by rw [hf]; simp)]
theorem FmtOn.again (h : FmtOn t ok fates D) (h0 : (snapOf (bytesOf D 0 10)).1 = 0) {text : Bs} (ht : text.length ≤ 120) : ∃ D' S, formatS D text = (D', some S, 0) ∧ GoodS D' S text [] := by
  have hf := h.found
  rw [if_neg (by omega)] at hf
  have hl := h.len
  obtain ⟨D', L, r, o⟩ := put_ok h.calm (by omega) h.fuse (slot := 0) (ep := 1) (by omega) (by omega) (text := text) (by omega) (by rw [hl, slot40]; omega) (by
    rw [hl, slot40, bytes_zero 20 20 (fun j hj => h.far _ (by omega) (by omega))]; exact told_zeros (by omega) _)
  have e1 := o.efr
  have e2 := o.eto
  have e3 := o.snap
  have e4 := o.other
  have e5 := o.len
  rw [hl] at e1 e2 e3 e4 e5
  refine ⟨D', ⟨L, 1, 0, false⟩, ?_, o.fuse h.fuse, o.good, by omega, by rw [e5]; exact e1, by rw [e5]; exact e2, o.eep, by simp, rfl, by simp, by simp, by rw [e5]; exact e3, ?_⟩
  · unfold formatS
    rw [if_neg (by rw [h.held]; simp), if_neg (by rw [hf]; simp), if_neg (by rw [r]; simp), r]
    rfl
  · rw [e5, e4, slot40]
    show (snapOf (bytesOf D ((1 - 0) * 10) 10)).1 < 1
    rw [show (1 - 0) * 10 = 10 from rfl, bytes_zero 10 10 (fun j hj => h.far _ (by omega) (by omega)), (snap_zeros _).1]
    omega
end
end Go.Proofs.YtoafebndlldclaaDoor.St
