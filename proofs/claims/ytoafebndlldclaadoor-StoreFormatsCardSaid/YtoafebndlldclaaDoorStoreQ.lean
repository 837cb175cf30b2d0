/- Plain: what the statements of layer 20 (StoreArgs, StoreEpochs, StoreKeeps) want of a store's ways. No program in sight. -/
import Derived.Test.YtoafebndlldclaaDoorStoreP
import Derived.Test.YtoafebndlldclaaDoorLogW
namespace Go.Proofs.YtoafebndlldclaaDoor.St
open Dk Fr Wl

theorem putsGo_off {D : DS} (h : D.off = true) (i : Nat) (s : Bs) : putsGo D i s = (D, true) := by
  have hw : ∀ (i : Int) (s : Bs), write D i s = (D, 180) := fun i s => by
    unfold Dk.write
    rw [within_off h]
    simp
  have hs : sync D = (D, 180) := by unfold Dk.sync; rw [if_pos h]
  have hr : ∀ i s, restGo D i s = (D, true) := by
    intro i s
    unfold restGo
    rw [hs, hw]
    split <;> simp
  unfold putsGo
  cases hn : s.length / 64 with
  | zero => simp only [fullsGo, hr]; simp
  | succ k =>
    have hf : fullsGo (k + 1) D i s = (D, true) := by
      simp only [fullsGo, hw]
      simp
    rw [hf]
    simp

section
variable {D : DS} {S : SS} {snap : Bs} {recs : List Bs}
theorem good_unique {D D' : DS} {L L' : LS} {recs : List Bs} (h : Wl.Good D L recs) (h' : Wl.Good D' L' recs) (h1 : L'.fr = L.fr) (h2 : L'.to_ = L.to_) (h3 : L'.ep = L.ep) : L' = L := by
  have a1 := h.many
  have a2 := h.en
  have a3 := h.last
  have a4 := h.over
  have b1 := h'.many
  have b2 := h'.en
  have b3 := h'.last
  have b4 := h'.over
  cases L
  cases L'
  simp only at *
  subst h1 h2 h3
  rw [a1, a2, a3, a4, b1, b2, b3, b4]
theorem GoodS.open_same (h : GoodS D S snap recs) : ∃ D', openS D = (D', some S, snap, recs, 0) ∧ GoodS D' S snap recs ∧ D'.olds.length = D.olds.length := by
  obtain ⟨D', L', r, o⟩ := reopen_ok h.log h.fuse
  have hL : L' = S.L := good_unique h.log o.good o.efr o.eto o.eep
  subst hL
  have r2 := r
  rw [h.efr, h.eto, h.eep] at r2
  have hov := h.over
  refine ⟨D', ?_, h.moved o _ rfl rfl rfl hov, o.beside.len⟩
  unfold openS
  rw [if_neg (by rw [h.held]; simp), if_neg (by rw [h.found]; simp), h.found]
  simp only
  rw [r2]
  cases S
  simp only at hov
  subst hov
  simp
theorem GoodS.saneL (h : GoodS D S snap recs) : Sane D.olds.length S.L := h.log.sane
theorem GoodS.roomL (h : GoodS D S snap recs) : S.L.room = ((64 * (D.olds.length - 2 * slotN D.olds.length) : Nat) : Int) - ((szs recs : Nat) : Int) := by
  have h1 := slot_pos h.n8 h.log.calm.ok.hi
  have := h.n8
  unfold LS.room
  rw [h.efr, h.eto, h.log.en]
  omega
end

/-! ### StoreArgs -/
structure ArgsIs (n m : Nat) (D1 D2 D3 D4 D5 : DS) (S1 S2 S3 S4 S5 : SS) (g : Int) (snap : Bs) (recs : List Bs) : Prop where
  r1 : formatS (new n) [97] = (D1, some S1, 0)
  r2 : appendS D1 S1 [[98]] = (D2, S2, 0)
  r3 : compactS D2 S2 (zeros m) = (D3, S3, g)
  r4 : openS D3 = (D4, some S4, snap, recs, 0)
  r5 : openS (Dk.cut D4) = (Dk.cut D4, none, [], [], 180)
  r6 : appendS (Dk.cut D4) S3 [[99]] = (D5, S5, 180)
  r7 : compactS D5 S5 [99] = (D5, S5, 180)
  hg : g = if 8192 < m then 71 else if 64 * slotN n < m + 24 then 2 else 0
  yes : g = 0 → snap = zeros m ∧ recs = []
  no : g ≠ 0 → snap = [97] ∧ recs = [[98]]
  s1 : Sane D1.olds.length S1.L
  s3 : Sane (Dk.cut D4).olds.length S3.L
  a2 : S2.slot ≤ 1
  b2 : S2.ep ≤ 1000000
  a5 : S5.slot ≤ 1
  b5 : S5.ep ≤ 1000000

theorem cut_append {D : DS} {S : SS} {snap : Bs} {recs : List Bs} (h : GoodS D S snap recs) (t : Bs) (ht : t.length ≤ 8192) (hr : szs recs + (24 + t.length) ≤ 64 * (D.olds.length - 2 * slotN D.olds.length)) :
    ∃ S', appendS (Dk.cut D) S [t] = (Dk.cut D, S', 180) ∧ S'.over = true ∧ S'.slot = S.slot ∧ S'.ep = S.ep := by
  have hrm := h.roomL
  have ha : appendL (Dk.cut D) S.L [t] = (Dk.cut D, { S.L with over := true }, 180) := by
    unfold appendL
    rw [if_neg (by simp; omega), if_neg (by simp), if_neg (by simp only [szs]; omega), if_neg (by rw [h.log.over]; simp), putsGo_off (show (Dk.cut D).off = true from rfl)]
    simp
  refine ⟨{ S with L := { S.L with over := true }, over := true }, ?_, rfl, rfl, rfl⟩
  unfold appendS
  rw [if_neg (by rw [h.over]; simp), ha]
  simp

theorem args_plain {n : Nat} (h8 : 8 ≤ n) (h80 : n ≤ 80) (m : Nat) : ∃ D1 D2 D3 D4 D5 S1 S2 S3 S4 S5 g snap recs, ArgsIs n m D1 D2 D3 D4 D5 S1 S2 S3 S4 S5 g snap recs := by
  have hk : slotN n = n / 4 := slot_pos h8 (by omega)
  obtain ⟨D1, S1, r1, g1, e1, l1⟩ := format_ok h8 (show n ≤ 4096 by omega) (text := [97]) (by decide) (by simp; omega)
  obtain ⟨D2, S2, r2, g2, e2, l2⟩ := g1.append_ok (texts := [[98]]) (by simp) (by rw [l1]; simp [szs]; omega)
  have n2 : D2.olds.length = n := l2.trans l1
  -- what is behind the compaction
  have fin : ∀ (D3 : DS) (S3 : SS) (g : Int) (snap : Bs) (recs : List Bs), compactS D2 S2 (zeros m) = (D3, S3, g) → GoodS D3 S3 snap recs → D3.olds.length = n → szs recs ≤ 25 → (g = if 8192 < m then 71 else if 64 * slotN n < m + 24 then 2 else 0) → (g = 0 → snap = zeros m ∧ recs = []) → (g ≠ 0 → snap = [97] ∧ recs = [[98]]) → ∃ D1 D2 D3 D4 D5 S1 S2 S3 S4 S5 g snap recs, ArgsIs n m D1 D2 D3 D4 D5 S1 S2 S3 S4 S5 g snap recs := by
    intro D3 S3 g snap recs r3 g3 l3 hz hg hy hn
    obtain ⟨D4, r4, g4, l4⟩ := g3.open_same
    have n4 : D4.olds.length = n := l4.trans l3
    obtain ⟨S5, r6, o5, a5, b5⟩ := cut_append g4 [99] (by decide) (by rw [n4]; simp; omega)
    have r5 : openS (Dk.cut D4) = (Dk.cut D4, none, [], [], 180) := by
      have hh : heldD (Dk.cut D4) = 180 := by
        unfold heldD
        rw [show (Dk.cut D4).olds.length = n from n4, if_neg (by omega), if_pos (show (Dk.cut D4).off = true from rfl)]
      unfold openS
      rw [if_pos (by rw [hh]; simp), hh]
    have r7 : compactS (Dk.cut D4) S5 [99] = (Dk.cut D4, S5, 180) := by
      unfold compactS
      rw [if_pos (.inl o5)]
    exact ⟨D1, D2, D3, D4, Dk.cut D4, S1, S2, S3, S3, S5, g, snap, recs, r1, r2, r3, r4, r5, r6, r7, hg, hy, hn, g1.saneL, g4.saneL, g2.slot, g2.ep2, by rw [a5]; exact g4.slot, by rw [b5]; exact g4.ep2⟩
  by_cases hb : 8192 < m
  · have hc := g2.compact_no (text := zeros m) (put_cap (by rw [zeros_length]; exact hb)) (by decide) (by decide)
    exact fin D2 S2 71 [97] [[98]] hc g2 n2 (by decide) (by rw [if_pos hb]) (fun h => absurd h (by decide)) (fun _ => ⟨rfl, rfl⟩)
  · by_cases hf : 64 * slotN n < m + 24
    · have hc := g2.compact_no (text := zeros m) (put_full (by rw [zeros_length]; omega) (by rw [zeros_length, n2]; exact hf)) (by decide) (by decide)
      exact fin D2 S2 2 [97] [[98]] hc g2 n2 (by decide) (by rw [if_neg hb, if_pos hf]) (fun h => absurd h (by decide)) (fun _ => ⟨rfl, rfl⟩)
    · obtain ⟨D3, S3, r3, g3, e3, l3⟩ := g2.compact_ok (by omega) (text := zeros m) (by rw [zeros_length]; omega) (by rw [zeros_length, n2]; omega)
      exact fin D3 S3 0 (zeros m) [] r3 g3 (l3.trans n2) (by decide) (by rw [if_neg hb, if_neg hf]) (fun _ => ⟨rfl, rfl⟩) (fun h => absurd rfl h)

/-! ### StoreEpochs -/
structure EpochStep (D D2 D3 D4 : DS) (S S2 S3 : SS) (t : Bs) : Prop where
  r1 : appendS D S [[97]] = (D2, S2, 0)
  r2 : compactS D2 S2 t = (D3, S3, 0)
  r3 : openS D3 = (D4, some S3, t, [], 0)
  good : GoodS D4 S3 t []
  ep : S3.ep = S.ep + 1
  len : D4.olds.length = D.olds.length
  a2 : S2.slot ≤ 1
  b2 : S2.ep ≤ 1000000
  many : S3.L.many = 0
theorem epoch_step {D : DS} {S : SS} {snap : Bs} (h : GoodS D S snap []) (h24 : 24 ≤ D.olds.length) (hep : S.ep < 1000000) {t : Bs} (ht : t.length ≤ 120) : ∃ D2 D3 D4 S2 S3, EpochStep D D2 D3 D4 S S2 S3 t := by
  have hk : slotN D.olds.length = D.olds.length / 4 := slot_pos h.n8 h.log.calm.ok.hi
  obtain ⟨D2, S2, r1, g2, e2, l2⟩ := h.append_ok (texts := [[97]]) (by simp) (by simp [szs]; omega)
  obtain ⟨D3, S3, r2, g3, e3, l3⟩ := g2.compact_ok (by omega) (text := t) (by omega) (by rw [l2]; omega)
  obtain ⟨D4, r3, g4, l4⟩ := g3.open_same
  exact ⟨D2, D3, D4, S2, S3, r1, r2, r3, g4, by omega, by omega, g2.slot, g2.ep2, g4.log.many⟩
end Go.Proofs.YtoafebndlldclaaDoor.St
