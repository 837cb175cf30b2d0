/- Plain: what becomes of a disk and of a store as it is formatted, opened, appended to and compacted. No program in sight. -/
import Derived.Test.YtoafebndlldclaaDoorLogD
namespace Go.Proofs.YtoafebndlldclaaDoor.St
open Dk Fr Wl

def slotN (n : Nat) : Nat := if n < 8 ∨ 4096 < n then 0 else n / 4
/-- the snapshot that a slot's bytes tell; the epoch 0: none -/
def snapOf (s : Bs) : Nat × Bs := if (firstL s).2.2.2.2 = 0 ∧ (firstL s).1 = (firstL s).2.1 then ((firstL s).2.1, (firstL s).2.2.1) else (0, [])
def pick2 (a b : Nat × Bs) : Nat × Bs × Int :=
  if (if 0 < a.1 then a.1 else 0) < b.1 then (b.1, b.2, 1) else if 0 < a.1 then (a.1, a.2, 0) else (0, [], -1)
def foundD (D : DS) : Nat × Bs × Int := pick2 (snapOf (bytesOf D 0 (slotN D.olds.length))) (snapOf (bytesOf D (slotN D.olds.length) (slotN D.olds.length)))
def heldD (D : DS) : Int := if slotN D.olds.length = 0 then 1 else if D.off = true then 180 else 0
def putS (D : DS) (slot ep : Nat) (text : Bs) : DS × Option LS × Int :=
  if 8192 < text.length then (D, none, 71)
  else if 64 * slotN D.olds.length < 24 + text.length then (D, none, 2)
  else if (putsGo D (slot * slotN D.olds.length) (putL ep ep text)).2 = true then ((putsGo D (slot * slotN D.olds.length) (putL ep ep text)).1, none, 180)
  else ((openL (putsGo D (slot * slotN D.olds.length) (putL ep ep text)).1 ((2 * slotN D.olds.length : Nat) : Int) ((D.olds.length : Nat) : Int) ep).1,
    (openL (putsGo D (slot * slotN D.olds.length) (putL ep ep text)).1 ((2 * slotN D.olds.length : Nat) : Int) ((D.olds.length : Nat) : Int) ep).2.1,
    (openL (putsGo D (slot * slotN D.olds.length) (putL ep ep text)).1 ((2 * slotN D.olds.length : Nat) : Int) ((D.olds.length : Nat) : Int) ep).2.2.2)
structure SS where
  L : LS
  ep : Nat
  slot : Nat
  over : Bool
def formatS (D : DS) (text : Bs) : DS × Option SS × Int :=
  if heldD D ≠ 0 then (D, none, heldD D)
  else if 0 ≤ (foundD D).2.2 then (D, none, 4)
  else if (putS D 0 1 text).2.2 ≠ 0 then ((putS D 0 1 text).1, none, (putS D 0 1 text).2.2)
  else ((putS D 0 1 text).1, (putS D 0 1 text).2.1.map fun L => ⟨L, 1, 0, false⟩, 0)
def openS (D : DS) : DS × Option SS × Bs × List Bs × Int :=
  if heldD D ≠ 0 then (D, none, [], [], heldD D)
  else if (foundD D).2.2 < 0 then (D, none, [], [], 200)
  else if (openL D ((2 * slotN D.olds.length : Nat) : Int) ((D.olds.length : Nat) : Int) (foundD D).1).2.2.2 ≠ 0 then
    ((openL D ((2 * slotN D.olds.length : Nat) : Int) ((D.olds.length : Nat) : Int) (foundD D).1).1, none, [], [], (openL D ((2 * slotN D.olds.length : Nat) : Int) ((D.olds.length : Nat) : Int) (foundD D).1).2.2.2)
  else ((openL D ((2 * slotN D.olds.length : Nat) : Int) ((D.olds.length : Nat) : Int) (foundD D).1).1,
    (openL D ((2 * slotN D.olds.length : Nat) : Int) ((D.olds.length : Nat) : Int) (foundD D).1).2.1.map fun L => ⟨L, (foundD D).1, (foundD D).2.2.toNat, false⟩,
    (foundD D).2.1, (openL D ((2 * slotN D.olds.length : Nat) : Int) ((D.olds.length : Nat) : Int) (foundD D).1).2.2.1, 0)
def appendS (D : DS) (S : SS) (texts : List Bs) : DS × SS × Int :=
  if S.over = true then (D, S, 180)
  else ((appendL D S.L texts).1, { S with L := (appendL D S.L texts).2.1, over := decide ((appendL D S.L texts).2.2 = 180) }, (appendL D S.L texts).2.2)
def compactS (D : DS) (S : SS) (text : Bs) : DS × SS × Int :=
  if S.over = true ∨ D.off = true then (D, S, 180)
  else if (putS D (1 - S.slot) (S.ep + 1) text).2.2 = 0 then
    ((putS D (1 - S.slot) (S.ep + 1) text).1, { S with L := (putS D (1 - S.slot) (S.ep + 1) text).2.1.getD S.L, slot := 1 - S.slot, ep := S.ep + 1 }, 0)
  else ((putS D (1 - S.slot) (S.ep + 1) text).1, if (putS D (1 - S.slot) (S.ep + 1) text).2.2 = 180 then { S with over := true } else S, (putS D (1 - S.slot) (S.ep + 1) text).2.2)

/-! ### what a slot tells -/
theorem snap_put {e : Nat} {t rest : Bs} (he : e < 18446744073709551616) (ht : t.length ≤ 8192) : snapOf (putL e e t ++ rest) = (e, t) := by
  unfold snapOf
  rw [first_put e e t rest he he ht]
  simp
theorem snap_zeros (m : Nat) : (snapOf (zeros m)).1 = 0 ∧ (snapOf (zeros m)).2 = [] := by
  unfold snapOf
  split
  · rename_i h
    obtain ⟨h0, h1⟩ := h
    rcases hf : firstL (zeros m) with ⟨q, e, t, r, x⟩
    rw [hf] at h0 h1
    simp only at h0 h1
    subst h0 h1
    obtain ⟨hp, hq, he, ht⟩ := put_first hf
    have hall : ∀ y ∈ putL q q t ++ r, y = 0 := by
      intro y hy; rw [hp] at hy; exact (List.mem_replicate.1 hy).2
    have hz : ∀ (n k : Nat), (∀ y ∈ Num.fixL n k, y = 0) → n < 256 ^ k → n = 0 := by
      intro n k hy hn
      have h1 : Num.fixL n k = List.replicate k 0 := by
        rw [List.eq_replicate_iff]; exact ⟨Num.fixL_length k n, hy⟩
      have h2 := Num.numL_fixL k n
      rw [h1, Nat.mod_eq_of_lt hn] at h2
      have h3 : ∀ k, Num.numL (List.replicate k 0) = 0 := by
        intro k
        induction k with
        | zero => rfl
        | succ k ih =>
          rw [List.replicate_succ']
          show Num.numF 0 (List.replicate k 0 ++ [0]) = 0
          rw [Num.numF_snoc, show Num.numF 0 (List.replicate k 0) = Num.numL (List.replicate k 0) from rfl, ih]
          rfl
      rw [h3] at h2
      omega
    have e0 : q = 0 := hz q 8 (fun y hy => hall y (by simp [putL, bodyL, hy])) (by omega)
    have t0 : t.length = 0 := hz t.length 4 (fun y hy => hall y (by simp [putL, bodyL, hy])) (by omega)
    exact ⟨e0, List.eq_nil_of_length_eq_zero t0⟩
  · exact ⟨rfl, rfl⟩

/-- bytes that begin by a text that was written from the first sector on -/
theorem bytes_begin {D : DS} (i k : Nat) (s : Bs) (hs : (s.length + 63) / 64 ≤ k) (hw : ∀ j, 64 * j < s.length → sect D (i + j) = pad ((s.drop (64 * j)).take 64)) : ∃ rest, bytesOf D i k = s ++ rest := by
  have e : k = (s.length + 63) / 64 + (k - (s.length + 63) / 64) := by omega
  rw [e, bytesOf_add]
  have := padded (D := D) ((s.length + 63) / 64) i s (by omega) (fun j hj => by
    by_cases hjs : 64 * j < s.length
    · exact hw j hjs
    · omega)
  rw [this, List.append_assoc]
  exact ⟨_, rfl⟩

/-! ### a store in order -/
structure GoodS (D : DS) (S : SS) (snap : Bs) (recs : List Bs) : Prop where
  fuse : D.fuse = 0
  log : Good D S.L recs
  n8 : 8 ≤ D.olds.length
  efr : S.L.fr = 2 * slotN D.olds.length
  eto : S.L.to_ = D.olds.length
  eep : S.L.ep = S.ep
  slot : S.slot ≤ 1
  over : S.over = false
  ep1 : 1 ≤ S.ep
  ep2 : S.ep ≤ 1000000
  snap : snapOf (bytesOf D (S.slot * slotN D.olds.length) (slotN D.olds.length)) = (S.ep, snap)
  other : (snapOf (bytesOf D ((1 - S.slot) * slotN D.olds.length) (slotN D.olds.length))).1 < S.ep

theorem slot_pos {n : Nat} (h : 8 ≤ n) (h2 : n ≤ 4096) : slotN n = n / 4 := by unfold slotN; rw [if_neg (by omega)]
theorem GoodS.held {D : DS} {S : SS} {snap : Bs} {recs : List Bs} (h : GoodS D S snap recs) : heldD D = 0 := by
  have h1 := slot_pos h.n8 h.log.calm.ok.hi
  have := h.n8
  unfold heldD
  rw [if_neg (by omega), if_neg (by rw [h.log.calm.up]; simp)]
theorem GoodS.found {D : DS} {S : SS} {snap : Bs} {recs : List Bs} (h : GoodS D S snap recs) : foundD D = (S.ep, snap, (S.slot : Int)) := by
  have h1 := h.snap
  have h2 := h.other
  have h3 := h.slot
  have h4 := h.ep1
  unfold foundD
  by_cases hs : S.slot = 0
  · rw [hs] at h1 h2 ⊢
    rw [Nat.zero_mul] at h1
    rw [Nat.sub_zero, Nat.one_mul] at h2
    unfold pick2
    rw [h1]
    simp only [show (0 : Nat) < S.ep from h4, if_true]
    rw [if_neg (by omega)]
    rfl
  · have hs1 : S.slot = 1 := by omega
    rw [hs1] at h1 h2 ⊢
    rw [Nat.one_mul] at h1
    rw [Nat.sub_self, Nat.zero_mul] at h2
    unfold pick2
    rw [h1]
    rw [if_pos (by split <;> omega)]
    rfl

/-- what a put leaves, where nothing fails -/
structure PutOk (D : DS) (slot ep : Nat) (text : Bs) (D' : DS) (L : LS) : Prop where
  good : Good D' L []
  efr : L.fr = 2 * slotN D.olds.length
  eto : L.to_ = D.olds.length
  eep : L.ep = ep
  len : D'.olds.length = D.olds.length
  snap : snapOf (bytesOf D' (slot * slotN D.olds.length) (slotN D.olds.length)) = (ep, text)
  other : bytesOf D' ((1 - slot) * slotN D.olds.length) (slotN D.olds.length) = bytesOf D ((1 - slot) * slotN D.olds.length) (slotN D.olds.length)
  fuse : D.fuse = 0 → D'.fuse = 0

theorem put_ok {D : DS} (h : Calm D) (h8 : 8 ≤ D.olds.length) (hf : D.fuse = 0) {slot ep : Nat} (hs : slot ≤ 1) (hep : ep < 18446744073709551616) {text : Bs} (ht : text.length ≤ 8192) (hfit : text.length + 24 ≤ 64 * slotN D.olds.length)
    (hlog : told ep (bytesOf D (2 * slotN D.olds.length) (D.olds.length - 2 * slotN D.olds.length)) = []) :
    ∃ D' L, putS D slot ep text = (D', some L, 0) ∧ PutOk D slot ep text D' L := by
  have hk := slot_pos h8 h.ok.hi
  obtain ⟨k, hkd⟩ : ∃ k, k = slotN D.olds.length := ⟨_, rfl⟩
  have hpl := putL_length ep ep text
  have hsk : slot * k + k ≤ 2 * k := by
    have : slot * k ≤ 1 * k := Nat.mul_le_mul_right k hs
    omega
  rw [← hkd] at hfit hlog hk
  have hp := putsGo_spec (fr := 0) (to_ := 2 * k) (en := 0) h (by omega) (slot * k) (putL ep ep text) (by omega) (by omega) (fun j hj => by
    have : keepN 0 (slot * k + j - 0) = 0 := by unfold keepN; omega
    rw [this]
    exact ⟨by omega, by simp⟩)
  rcases hp with ⟨e1, hd⟩ | ⟨_, hfl⟩
  rotate_left
  · exact absurd hf hfl.fuse
  obtain ⟨D1, hD1⟩ : ∃ D1, D1 = (putsGo D (slot * k) (putL ep ep text)).1 := ⟨_, rfl⟩
  rw [← hD1] at hd
  have hlen := hd.len
  have hfar : ∀ i, i < D.olds.length → (i < slot * k ∨ slot * k + k ≤ i) → sect D1 i = sect D i := fun i hi hx => hd.other i hi (by omega)
  obtain ⟨D2, L, r2, o2⟩ := open_ok (fr := 2 * k) (to_ := D.olds.length) (ep := ep) hd.calm (by omega) (by omega) hep (hd.fuse hf) (recs := []) (by
    rw [bytesOf_congr (D := D) _ _ (fun j hj => hfar _ (by omega) (by omega))]
    exact hlog)
  have hsl : ∀ i, i < 2 * k → sect D2 i = sect D1 i := fun i hi => o2.beside.far i (by omega) (by omega)
  refine ⟨D2, L, ?_, o2.good, by rw [o2.efr, hkd], o2.eto, o2.eep, o2.beside.len.trans hlen, ?_, ?_, fun e => o2.beside.fuse (hd.fuse e)⟩
  · unfold putS
    rw [← hkd, if_neg (by omega), if_neg (by omega), if_neg (by rw [e1]; simp), ← hD1, r2]
  · rw [← hkd]
    obtain ⟨rest, hb⟩ := bytes_begin (slot * k) k (putL ep ep text) (by omega) hd.at_
    rw [bytesOf_congr (D := D1) _ _ (fun j hj => hsl _ (by omega)), hb]
    exact snap_put hep ht
  · rw [← hkd]
    have h1k : (1 - slot) * k + k ≤ 2 * k := by
      have : (1 - slot) * k ≤ 1 * k := Nat.mul_le_mul_right k (by omega)
      omega
    have hdis : ∀ j, j < k → ((1 - slot) * k + j < slot * k ∨ slot * k + k ≤ (1 - slot) * k + j) := by
      intro j hj
      rcases Nat.lt_or_ge slot 1 with h0 | h0
      · have : slot = 0 := by omega
        subst this; right; simp
      · have : slot = 1 := by omega
        subst this; left; simp; omega
    refine bytesOf_congr _ _ (fun j hj => ?_)
    rw [hsl _ (by omega), hfar _ (by omega) (hdis j hj)]

theorem put_cap {D : DS} {slot ep : Nat} {text : Bs} (h : 8192 < text.length) : putS D slot ep text = (D, none, 71) := by unfold putS; rw [if_pos h]
theorem put_full {D : DS} {slot ep : Nat} {text : Bs} (h : text.length ≤ 8192) (h2 : 64 * slotN D.olds.length < text.length + 24) : putS D slot ep text = (D, none, 2) := by unfold putS; rw [if_neg (by omega), if_pos (by omega)]

theorem held_new {n : Nat} (h : 8 ≤ n) (h2 : n ≤ 4096) : heldD (new n) = 0 := by
  have h1 := slot_pos h h2
  unfold heldD
  rw [new_len, if_neg (by omega), if_neg (by simp [new])]
theorem held_small {D : DS} (h : D.olds.length < 8) : heldD D = 1 := by
  unfold heldD slotN
  rw [if_pos (by rw [if_pos (by omega)])]
theorem found_zeros {D : DS} (h1 : bytesOf D 0 (slotN D.olds.length) = zeros (64 * slotN D.olds.length)) (h2 : bytesOf D (slotN D.olds.length) (slotN D.olds.length) = zeros (64 * slotN D.olds.length)) : foundD D = (0, [], -1) := by
  unfold foundD pick2
  have hz := snap_zeros (64 * slotN D.olds.length)
  rw [h1, h2, hz.1]
  simp
theorem found_new {n : Nat} (h : 8 ≤ n) (h2 : n ≤ 4096) : foundD (new n) = (0, [], -1) := by
  have h1 := slot_pos h h2
  refine found_zeros ?_ ?_
  · rw [new_len, bytes_new n _ _ (by omega)]
  · rw [new_len, bytes_new n _ _ (by omega)]

theorem format_ok {n : Nat} (h : 8 ≤ n) (h2 : n ≤ 4096) {text : Bs} (ht : text.length ≤ 8192) (hfit : text.length + 24 ≤ 64 * slotN n) :
    ∃ D' S, formatS (new n) text = (D', some S, 0) ∧ GoodS D' S text [] ∧ S.ep = 1 ∧ D'.olds.length = n := by
  have h1 := slot_pos h h2
  obtain ⟨D', L, r, o⟩ := put_ok (new_calm (n := n) (by omega) h2) (by rw [new_len]; exact h) rfl (slot := 0) (ep := 1) (by omega) (by omega) ht (by rw [new_len]; exact hfit) (by rw [new_len, bytes_new n _ _ (by omega)]; exact told_zeros (by omega) _)
  have hl : D'.olds.length = n := o.len.trans (new_len n)
  refine ⟨D', ⟨L, 1, 0, false⟩, ?_, ?_, rfl, hl⟩
  · unfold formatS
    rw [if_neg (by rw [held_new h h2]; simp), if_neg (by rw [found_new h h2]; simp), if_neg (by rw [r]; simp), r]
    rfl
  · have e1 := o.efr
    have e2 := o.eto
    have e3 := o.snap
    have e4 := o.other
    rw [new_len] at e1 e2 e3 e4
    refine ⟨o.fuse rfl, o.good, by omega, by rw [hl]; exact e1, by rw [hl]; exact e2, o.eep, by simp, rfl, by simp, by simp, by rw [hl]; exact e3, ?_⟩
    rw [hl, e4, bytes_new n _ _ (by omega), (snap_zeros _).1]
    simp
theorem format_full {n : Nat} (h : 8 ≤ n) (h2 : n ≤ 4096) {text : Bs} (ht : text.length ≤ 8192) (hfit : 64 * slotN n < text.length + 24) : formatS (new n) text = (new n, none, 2) := by
  unfold formatS
  rw [if_neg (by rw [held_new h h2]; simp), if_neg (by rw [found_new h h2]; simp)]
  rw [put_full ht (by rw [new_len]; exact hfit)]
  simp
theorem format_small {D : DS} (h : D.olds.length < 8) (text : Bs) : formatS D text = (D, none, 1) := by
  unfold formatS
  rw [if_pos (by rw [held_small h]; simp), held_small h]
theorem open_small {D : DS} (h : D.olds.length < 8) : openS D = (D, none, [], [], 1) := by
  unfold openS
  rw [if_pos (by rw [held_small h]; simp), held_small h]
theorem open_none_new {n : Nat} (h : 8 ≤ n) (h2 : n ≤ 4096) : openS (new n) = (new n, none, [], [], 200) := by
  unfold openS
  rw [if_neg (by rw [held_new h h2]; simp), if_pos (by rw [found_new h h2]; simp)]

section
variable {D : DS} {S : SS} {snap : Bs} {recs : List Bs}
theorem GoodS.twice (h : GoodS D S snap recs) (text : Bs) : formatS D text = (D, none, 4) := by
  unfold formatS
  rw [if_neg (by rw [h.held]; simp), if_pos (by rw [h.found]; simp)]
theorem GoodS.slots (h : GoodS D S snap recs) {D' : DS} (hb : Beside S.L.fr S.L.to_ D D') (s : Nat) (hs : s ≤ 1) : bytesOf D' (s * slotN D.olds.length) (slotN D.olds.length) = bytesOf D (s * slotN D.olds.length) (slotN D.olds.length) := by
  have h1 := slot_pos h.n8 h.log.calm.ok.hi
  have h2 : s * slotN D.olds.length ≤ 1 * slotN D.olds.length := Nat.mul_le_mul_right _ hs
  have h3 := h.efr
  exact bytesOf_congr _ _ (fun j hj => hb.far _ (by omega) (by omega))
theorem GoodS.moved (h : GoodS D S snap recs) {D' : DS} {L' : LS} {recs' : List Bs} (o : Opened S.L.fr S.L.to_ S.L.ep recs' D D' L') (x : SS) (hx : x.L = L') (h1 : x.ep = S.ep) (h2 : x.slot = S.slot) (h3 : x.over = false) : GoodS D' x snap recs' := by
  have hl := o.beside.len
  refine ⟨o.beside.fuse h.fuse, by rw [hx]; exact o.good, by rw [hl]; exact h.n8, by rw [hx, hl, o.efr]; exact h.efr, by rw [hx, hl, o.eto]; exact h.eto, by rw [hx, h1, o.eep]; exact h.eep, by rw [h2]; exact h.slot, h3, by rw [h1]; exact h.ep1, by rw [h1]; exact h.ep2, ?_, ?_⟩
  · rw [hl, h2, h1, h.slots o.beside _ h.slot]; exact h.snap
  · rw [hl, h2, h1, h.slots o.beside _ (by omega)]; exact h.other
theorem GoodS.append_ok (h : GoodS D S snap recs) {texts : List Bs} (hs : ∀ t ∈ texts, t.length ≤ 8192) (hfit : szs recs + szs texts ≤ 64 * (D.olds.length - 2 * slotN D.olds.length)) :
    ∃ D' S', appendS D S texts = (D', S', 0) ∧ GoodS D' S' snap (recs ++ texts) ∧ S'.ep = S.ep ∧ D'.olds.length = D.olds.length := by
  obtain ⟨D', L', r, o⟩ := Wl.append_ok h.log h.fuse hs (by rw [h.efr, h.eto]; exact hfit)
  refine ⟨D', { S with L := L', over := false }, ?_, h.moved o _ rfl rfl rfl rfl, rfl, o.beside.len⟩
  unfold appendS
  rw [if_neg (by rw [h.over]; simp), r]
  simp
theorem GoodS.append_full (h : GoodS D S snap recs) {texts : List Bs} (hs : ∀ t ∈ texts, t.length ≤ 8192) (hfit : 64 * (D.olds.length - 2 * slotN D.olds.length) < szs recs + szs texts) : appendS D S texts = (D, S, 2) := by
  have r := Wl.append_full h.log hs (by rw [h.efr, h.eto]; exact hfit)
  unfold appendS
  rw [if_neg (by rw [h.over]; simp), r]
  have := h.over
  cases S
  simp only at this
  subst this
  simp
theorem GoodS.open_ok (h : GoodS D S snap recs) : ∃ D' S', openS D = (D', some S', snap, recs, 0) ∧ GoodS D' S' snap recs ∧ S'.ep = S.ep ∧ D'.olds.length = D.olds.length := by
  obtain ⟨D', L', r, o⟩ := reopen_ok h.log h.fuse
  have r2 := r
  rw [h.efr, h.eto, h.eep] at r2
  refine ⟨D', ⟨L', S.ep, S.slot, false⟩, ?_, h.moved o _ rfl rfl rfl rfl, rfl, o.beside.len⟩
  unfold openS
  rw [if_neg (by rw [h.held]; simp), if_neg (by rw [h.found]; simp), h.found]
  simp only
  rw [r2]
  simp
theorem GoodS.compact_ok (h : GoodS D S snap recs) (he : S.ep < 1000000) {text : Bs} (ht : text.length ≤ 8192) (hfit : text.length + 24 ≤ 64 * slotN D.olds.length) :
    ∃ D' S', compactS D S text = (D', S', 0) ∧ GoodS D' S' text [] ∧ S'.ep = S.ep + 1 ∧ D'.olds.length = D.olds.length := by
  have h1 := slot_pos h.n8 h.log.calm.ok.hi
  have hb := h.log.bytes
  rw [h.efr, h.eto, h.eep] at hb
  obtain ⟨D', L, r, o⟩ := put_ok h.log.calm h.n8 h.fuse (slot := 1 - S.slot) (ep := S.ep + 1) (by omega) (by omega) ht hfit (by rw [hb]; exact told_other (by omega) (by omega) (by omega) _ _ h.log.small)
  have hl := o.len
  have hs := h.slot
  refine ⟨D', { S with L := L, slot := 1 - S.slot, ep := S.ep + 1 }, ?_, ⟨o.fuse h.fuse, o.good, by rw [hl]; exact h.n8, by rw [hl]; exact o.efr, by rw [hl]; exact o.eto, o.eep, by show 1 - S.slot ≤ 1; omega, h.over, by show 1 ≤ S.ep + 1; omega, by show S.ep + 1 ≤ 1000000; omega, by rw [hl]; exact o.snap, ?_⟩, rfl, hl⟩
  · unfold compactS
    rw [if_neg (by rw [h.over, h.log.calm.up]; simp), r]
    simp
  · rw [hl, o.other]
    show (snapOf (bytesOf D ((1 - (1 - S.slot)) * slotN D.olds.length) (slotN D.olds.length))).1 < S.ep + 1
    rw [show 1 - (1 - S.slot) = S.slot from by omega, h.snap]
    simp
theorem GoodS.compact_no (h : GoodS D S snap recs) {text : Bs} {x : Int} (hr : putS D (1 - S.slot) (S.ep + 1) text = (D, none, x)) (hx : x ≠ 180) (h0 : x ≠ 0) : compactS D S text = (D, S, x) := by
  unfold compactS
  rw [if_neg (by rw [h.over, h.log.calm.up]; simp), hr]
  simp [hx, h0]
end
end Go.Proofs.YtoafebndlldclaaDoor.St
