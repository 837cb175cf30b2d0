/- Plain: a log's lives: what is told behind whatever the power does. No program in sight. -/
import Derived.Test.YtoafebndlldclaaDoorLogD
namespace Go.Proofs.YtoafebndlldclaaDoor.Wl
open Dk Fr

theorem prefB_app (l m : List Bs) : prefB (l ++ m) l = true := by unfold prefB; simp
theorem prefB_self (l : List Bs) : prefB l l = true := by unfold prefB; simp

/-- between two lives -/
structure Rest (ep n : Nat) (D : DS) (sure : List Bs) : Prop where
  calm : Calm D
  fuse : D.fuse = 0
  len : D.olds.length = n
  told : Fr.told ep (bytesOf D 3 25) = sure
/-- a life goes on -/
structure Going (ep n : Nat) (D : DS) (L : LS) (sure : List Bs) : Prop where
  good : Good D L sure
  efr : L.fr = 3
  eto : L.to_ = 28
  eep : L.ep = ep
  len : D.olds.length = n
/-- the power is gone -/
structure Dead (ep n : Nat) (D : DS) (sure maybe : List Bs) : Prop where
  off : D.off = true
  from_ : ∃ Dg, Calm Dg ∧ Dg.olds.length = n ∧ Fr.told ep (bytesOf Dg 3 25) = sure ∧ Failed 3 28 (szs sure) Dg D
  more : ∃ m, maybe = sure ++ m

section
variable {ep n : Nat} {D : DS} {L : LS} {sure : List Bs}
theorem calm_fuse (h : Calm D) {f : Nat} (hf : f ≤ 9223372036854775807) : Calm { D with fuse := f } := ⟨⟨h.ok.len, h.ok.lo, h.ok.hi, h.ok.old, h.ok.new, hf⟩, h.up, h.syn⟩
theorem bytes_fuse (D : DS) (f : Nat) (o : Bool) : ∀ (k i : Nat), bytesOf { D with fuse := f, off := o } i k = bytesOf D i k := fun k i => bytesOf_congr k i (fun _ _ => rfl)

theorem life_open (h : Rest ep n D sure) (hn : 28 ≤ n) (hep : ep < 18446744073709551616) (f : Nat) (hf : f ≤ 255) :
    (∃ D2 L, openL (setFuse D (f : Int)) 3 28 ep = (D2, some L, sure, 0) ∧ Going ep n D2 L sure) ∨ (∃ D2, openL (setFuse D (f : Int)) 3 28 ep = (D2, none, [], 180) ∧ Dead ep n D2 sure sure) := by
  have hD : setFuse D (f : Int) = { D with fuse := f } := by unfold setFuse; rw [Int.toNat_natCast]
  rw [hD]
  have hc := calm_fuse h.calm (f := f) (by omega)
  have ht : Fr.told ep (bytesOf { D with fuse := f } 3 (28 - 3)) = sure := by
    have := bytesOf_congr (D := D) (D' := { D with fuse := f }) 25 3 (fun _ _ => rfl)
    show Fr.told ep (bytesOf { D with fuse := f } 3 25) = sure
    rw [this]; exact h.told
  have hl : ({ D with fuse := f } : DS).olds.length = n := h.len
  have e1 : openL { D with fuse := f } 3 28 ep = openAt { D with fuse := f } 3 28 ep := by
    unfold openL
    rw [if_neg (by rw [hl]; omega), if_neg (by rw [hc.up]; simp)]
    rfl
  rw [e1]
  rcases openAt_spec hc (fr := 3) (to_ := 28) (ep := ep) (by omega) (by rw [hl]; omega) hep with ⟨L, h1, h2, h3, h4, h5, h6⟩ | ⟨h1, h2⟩
  · rw [ht] at h1 h2
    exact .inl ⟨_, L, Prod.ext rfl h1, h2, h3, h4, h5, h6.len.trans hl⟩
  · rw [ht] at h2
    exact .inr ⟨_, Prod.ext rfl h1, h2.off, ⟨_, hc, hl, ht, h2⟩, [], by simp⟩

theorem going_append (h : Going ep n D L sure) {texts : List Bs} (hs : ∀ t ∈ texts, t.length ≤ 8192) :
    ∃ D' L' x, appendL D L texts = (D', L', x) ∧ ((x = 0 ∧ Going ep n D' L' (sure ++ texts)) ∨ (x = 2 ∧ D' = D ∧ L' = L) ∨ (x = 180 ∧ Dead ep n D' sure (sure ++ texts))) := by
  have := append_spec h.good texts hs
  cases hR : appendL D L texts with
  | mk D' R =>
    obtain ⟨L', x⟩ := R
    rw [hR] at this
    refine ⟨D', L', x, rfl, ?_⟩
    cases this with
    | ok _ _ h1 h2 h3 h4 h5 h6 => exact .inl ⟨rfl, h2, h4.trans h.efr, h5.trans h.eto, h6.trans h.eep, h3.len.trans h.len⟩
    | full h1 => exact .inr (.inl ⟨rfl, rfl, rfl⟩)
    | off _ h1 h2 =>
      rw [h.efr, h.eto] at h2
      have ht := h.good.told
      rw [h.efr, h.eto, h.eep] at ht
      exact .inr (.inr ⟨rfl, h2.off, ⟨D, h.good.calm, h.len, ht, h2⟩, texts, rfl⟩)

/-- with power on again -/
structure OnAgain (ep n : Nat) (D' : DS) (raw : List Bs) : Prop where
  calm : Calm D'
  fuse : D'.fuse = 0
  len : D'.olds.length = n
  told : Fr.told ep (bytesOf D' 3 25) = raw

theorem going_on (h : Going ep n D L sure) (fates : List Int) : ∃ D', on (Dk.cut D) fates = (D', 0) ∧ OnAgain ep n D' sure := by
  have hc := h.good.calm
  have hs : Synced (Dk.cut D) := hc.syn
  have ht := h.good.told
  rw [h.efr, h.eto, h.eep] at ht
  have hon : on (Dk.cut D) fates = ({ olds := D.olds, news := D.news.map fun _ => none, fuse := 0, off := false }, 0) := by
    unfold Dk.on
    rw [if_pos (show (Dk.cut D).off = true from rfl), hs.dirty]
    rfl
  have hok : ({ olds := D.olds, news := D.news.map fun _ => none, fuse := 0, off := false } : DS).Ok := by
    have := (hc.ok.cut).on fates
    rw [hon] at this
    exact this
  refine ⟨_, hon, ⟨hok, rfl, synced_map D.news⟩, rfl, h.len, ?_⟩
  rw [bytesOf_congr (D := D) 25 3 (fun k _ => by
    have h1 := Synced.sect (D := { olds := D.olds, news := D.news.map fun _ => none, fuse := 0, off := false }) (synced_map D.news) (3 + k)
    rw [h1, hc.syn.sect])]
  exact ht

theorem cut_off {D : DS} (h : D.off = true) : Dk.cut D = D := by cases D; simp only at h; subst h; rfl
theorem dead_on {maybe : List Bs} (h : Dead ep n D sure maybe) (hn : 28 ≤ n) (hep : ep < 18446744073709551616) (fates : List Int) :
    ∃ D' raw, on (Dk.cut D) fates = (D', 0) ∧ OnAgain ep n D' raw ∧ prefB raw sure = true ∧ (fates = [] → prefB maybe raw = true) := by
  rw [cut_off h.off]
  obtain ⟨Dg, g1, g2, g3, g4⟩ := h.from_
  obtain ⟨m, hm⟩ := h.more
  obtain ⟨h1, h2, h3, h4, ⟨more, h5⟩, h6, _⟩ := Failed.power hep g1 (by omega) (show Fr.told ep (bytesOf Dg 3 (28 - 3)) = sure from g3) g4 fates
  refine ⟨(on D fates).1, sure ++ more, Prod.ext rfl h1, ⟨h2, h3, h4.trans g2, h5⟩, prefB_app _ _, fun hf => ?_⟩
  have h7 := h6 hf
  have h8 : sure ++ more = sure := by rw [← h5, ← h7]
  rw [h8, hm]
  exact prefB_app _ _

theorem life_reopen {raw : List Bs} (h : OnAgain ep n D raw) (hn : 28 ≤ n) (hep : ep < 18446744073709551616) : ∃ D2 L, openL D 3 28 ep = (D2, some L, raw, 0) ∧ Rest ep n D2 raw := by
  obtain ⟨D2, L, r, o⟩ := open_ok (fr := 3) (to_ := 28) (ep := ep) h.calm (by omega) (by rw [h.len]; omega) hep h.fuse h.told
  have ht := o.good.told
  rw [o.efr, o.eto, o.eep] at ht
  exact ⟨D2, L, r, o.good.calm, o.beside.fuse h.fuse, o.beside.len.trans h.len, ht⟩
theorem rest_new {n : Nat} (hn : 28 ≤ n) (hn2 : n ≤ 4096) (hep : ep < 18446744073709551616) : Rest ep n (new n) [] :=
  ⟨new_calm (by omega) hn2, rfl, new_len n, by rw [bytes_new n 25 3 (by omega)]; exact told_zeros hep _⟩
end
end Go.Proofs.YtoafebndlldclaaDoor.Wl
