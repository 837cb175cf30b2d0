/- A log on a disk of the caller's own: its calls where nothing fails, and plain facts on what is told. -/
import Derived.Test.YtoafebndlldclaaDoorTxtA
import Derived.Test.YtoafebndlldclaaDoorDg
namespace Go.Proofs.YtoafebndlldclaaDoor.Wl
open Go Go.RowKit Go.Shelf Dk Fr

/-! ### in memory -/
structure LogOn (W w : World) (b g bm lb : Nat) (D : DS) (L : LS) : Prop where
  at_ : At W w b g bm D
  log : IsLog w lb b L
  hlb : W.heap.size ≤ lb
  nf : ¬ Foot b g bm lb

section
variable {W w w' : World} {b g bm lb : Nat} {D : DS} {L : LS}
theorem at_kp {S : Nat → Prop} (h : At W w b g bm D) (hi : IsDisk w' b g bm D) (hk : Kp S w w') (hS : ∀ k, S k → W.heap.size ≤ k) : At W w' b g bm D :=
  ⟨hi, h.bel.trans (hk.below hS h.bel.size), h.hb, h.hg, h.hm⟩
theorem LogOn.lt (h : LogOn W w b g bm lb D L) : lb < w.heap.size := h.log.lt
theorem LogOn.below (h : LogOn W w b g bm lb D L) (hk : Below w.heap.size w w') : LogOn W w' b g bm lb D L := ⟨h.at_.below hk, h.log.below hk h.lt, h.hlb, h.nf⟩
theorem LogOn.alloc (h : LogOn W w b g bm lb D L) (o : Obj) : LogOn W (w.alloc o) b g bm lb D L := h.below ((Below.refl _ w).alloc (Nat.le_refl _) o)
theorem LogOn.drewN (h : LogOn W w b g bm lb D L) (n : Nat) : LogOn W (w.drewN n) b g bm lb D L := ⟨h.at_.drewN n, h.log, h.hlb, h.nf⟩
/-- the disk has changed, the log has not -/
theorem LogOn.disk {D' : DS} (h : LogOn W w b g bm lb D L) (ha : At W w' b g bm D') (hk : Kp (Foot b g bm) w w') : LogOn W w' b g bm lb D' L := ⟨ha, h.log.kept hk h.nf, h.hlb, h.nf⟩

def FootL (b g bm lb : Nat) (k : Nat) : Prop := Foot b g bm k ∨ k = lb
theorem LogOn.foot (h : LogOn W w b g bm lb D L) {k : Nat} (hk : FootL b g bm lb k) : W.heap.size ≤ k := by
  rcases hk with hk | rfl
  · exact h.at_.foot hk
  · exact h.hlb

theorem at_open (h : At W w b g bm D) (fr to_ : Int) (ep : Nat) :
    Calls Tryd.prog 13 #[.pointer (some ⟨b, 0, none⟩), .int .i64 fr, .int .i64 to_, .int .u64 ep] w fun e w' => ∃ (p : Option Addr) (v : Value), e = .returned (.tuple #[.pointer p, v, .int .i64 (openL D fr to_ ep).2.2.2]) ∧
      At W w' b g bm (openL D fr to_ ep).1 ∧ Texts w' w.heap.size v (openL D fr to_ ep).2.2.1 ∧ LogAt w' w.heap.size b p (openL D fr to_ ep).2.1 ∧ Kp (Foot b g bm) w w' :=
  (open_any h.disk fr to_ ep).mono fun _ _ ⟨p, v, he, hd, hk, ht, hl⟩ => ⟨p, v, he, h.step hd hk, ht, hl, hk⟩
theorem at_openLog (h : At W w b g bm D) {fr to_ : Int} {ep : Nat} {D' : DS} {L : LS} {recs : List Bs} (hR : openL D fr to_ ep = (D', some L, recs, 0)) :
    Calls Tryd.prog 13 #[.pointer (some ⟨b, 0, none⟩), .int .i64 fr, .int .i64 to_, .int .u64 ep] w fun e w' => ∃ (lb : Nat) (v : Value), e = .returned (.tuple #[.pointer (some ⟨lb, 0, none⟩), v, .int .i64 0]) ∧
      LogOn W w' b g bm lb D' L ∧ Texts w' w.heap.size v recs ∧ Kp (Foot b g bm) w w' ∧ w.heap.size ≤ lb := by
  have := at_open h fr to_ ep
  rw [hR] at this
  refine this.mono ?_
  rintro e w' ⟨p, v, rfl, ha, ht, ⟨lb, rfl, h1, h2⟩, hk⟩
  exact ⟨lb, v, rfl, ⟨ha, h2, by have := h.bel.size; omega, fun hf => by have := h.disk.lt hf; omega⟩, ht, hk, h1⟩
theorem LogOn.append (h : LogOn W w b g bm lb D L) (hs : Sane D.olds.length L) (v : Value) (texts : List Bs) (ht : RowT w v texts) (hn : texts.length ≤ 1000) {D' : DS} {L' : LS} {x : Int} (hR : appendL D L texts = (D', L', x)) :
    Calls Tryd.prog 14 #[.pointer (some ⟨lb, 0, none⟩), v] w fun e w' => e = .returned (.int .i64 x) ∧ LogOn W w' b g bm lb D' L' ∧ Kp (FootL b g bm lb) w w' := by
  have := append_any h.at_.disk h.log h.nf hs v texts ht hn
  rw [hR] at this
  refine this.mono ?_
  rintro e w' ⟨rfl, hd, hl, hk⟩
  exact ⟨rfl, ⟨⟨hd, h.at_.bel.trans (hk.below (fun k hk => h.foot hk) h.at_.bel.size), h.at_.hb, h.at_.hg, h.at_.hm⟩, hl, h.hlb, h.nf⟩, hk⟩
theorem LogOn.row {v : Value} {l : List Bs} (h : LogOn W w b g bm lb D L) (hr : RowT W v l) : RowT w v l := hr.kept h.at_.bel
theorem at_row {v : Value} {l : List Bs} (h : At W w b g bm D) (hr : RowT W v l) : RowT w v l := hr.kept h.bel
end
/-- a slice that was just made of constants -/
theorem row_new (w : World) (l : List Bs) (hm : l.length ≤ 1000) : RowT (w.alloc (.cells (l.map fun t => (.string ⟨t.toArray⟩ : Value)).toArray 9)) (.slice (some ⟨w.heap.size, 0, none⟩) l.length l.length) l :=
  ⟨_, l.length, rfl, Nat.le_refl _, by unfold maxLen; omega, fun _ => ⟨w.heap.size, 0, rfl, by simp, fun i x hx => by
    rw [World.cell?_alloc_at _ _ _ _ rfl]
    simp [hx]⟩⟩

theorem row_map {W : World} {v : Value} {l : List ByteArray} (h : Rd.RowOf W Value.string v l) : RowT W v (l.map fun s => s.data.toList) := by
  obtain ⟨a, c, h1, h2, h3, h4⟩ := h
  refine ⟨a, c, by rw [List.length_map]; exact h1, by rw [List.length_map]; exact h2, h3, fun hne => ?_⟩
  obtain ⟨b, off, k0, k1, k2⟩ := h4 (by rintro rfl; exact hne rfl)
  refine ⟨b, off, k0, k1, fun i x hx => ?_⟩
  rw [List.getElem?_map] at hx
  obtain ⟨s, hs, rfl⟩ := Option.map_eq_some_iff.1 hx
  have := k2 i s hs
  simpa using this
theorem small_map {l : List ByteArray} (h : ∀ x ∈ l, x.size ≤ maxLen) : ∀ t ∈ l.map (fun s => s.data.toList), t.length ≤ 9223372036854775807 := by
  intro t ht
  obtain ⟨s, hs, rfl⟩ := List.mem_map.1 ht
  have := h s hs
  unfold maxLen at this
  rw [Array.length_toList]
  show s.size ≤ _
  omega
end Go.Proofs.YtoafebndlldclaaDoor.Wl
