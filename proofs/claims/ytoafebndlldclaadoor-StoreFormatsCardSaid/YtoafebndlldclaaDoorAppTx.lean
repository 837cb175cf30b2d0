/- append of texts to texts of the call's own, as one law of the walk; what rows of texts keep. -/
import Derived.Test.YtoafebndlldclaaDoorLogOn
import Derived.Laws.AppendOwnNone
namespace Go.Proofs.YtoafebndlldclaaDoor.Wl
open Go Go.RowKit Go.Shelf Dk Fr

theorem texts_empty (w : World) : Texts (w.alloc (.cells #[] 9)) w.heap.size (.slice (some ⟨w.heap.size, 0, none⟩) 0 0) [] :=
  ⟨by simp, .inr ⟨w.heap.size, 0, #[], rfl, Nat.le_refl _, World.alloc_heap_new w _, by simp, by decide, by simp, by simp⟩⟩

theorem wpList_append_texts {w : World} {ops : Array Oper} {rest : List Oper} {o : Oper} {a : Act} {Q : Exit → Act → World → Prop} (hgd : o.guard = none) (s x : Operand)
    (ho : o.op = .call { callee := .builtin .append, args := #[s, x], argTypes := #[22, 22] }) (base : Nat) (v : Value) (l : List Bs) (hs : a.eval s = v) (hown : Texts w base v l)
    (base2 : Nat) (u : Value) (m : List Bs) (hx : a.eval x = u) (hr : Texts w base2 u m) (hl : l.length + m.length ≤ 1000000) (hbase : base ≤ w.heap.size)
    (h : ∀ v' w', Texts w' base v' (l ++ m) → w.grownBy w' v.ownBlock → wpList Tryd.prog ops Q rest (a.put o.dst v') w') : wpList Tryd.prog ops Q (o :: rest) a w := by
  obtain ⟨i0, hi, hz0, hz1, hz2⟩ := info_parts infoS
  rcases hr.2 with ⟨rfl, hm0⟩ | ⟨g, cap, cur, rfl, _⟩
  · obtain rfl : m = [] := List.eq_nil_of_length_eq_zero hm0
    refine wpList_append_own_none hgd s x 22 ho base 9 i0 1 Tryd.underlying22 hi v l.length _ hs hown hx ?_
    exact h v w (by rw [List.append_nil]; exact hown) ⟨rfl, rfl, rfl, Nat.le_refl _, fun _ _ _ => rfl⟩
  · refine wpList_append_own _ hgd s x 22 ho base 9 i0 (.string ⟨#[]⟩) 1 16 Tryd.underlying22 hi hz0 hz1 hz2 rfl (by decide) v l.length _ hs hown ⟨g, 0, none⟩ m.length cap (m.map fun t => .string ⟨t.toArray⟩) hx (by simp) ?_ ?_ (by unfold maxLen; omega) (by omega) hbase ?_
    · intro j u hu
      rw [show (⟨g, 0, none⟩ : Addr).add j = ⟨g, j, none⟩ from by unfold Addr.add; split <;> simp_all]
      exact row_cell hr hu
    · intro u hu
      obtain ⟨t, _, rfl⟩ := List.mem_map.1 hu
      rfl
    · intro v' w' h1 h2 _
      refine h v' w' ?_ h2
      unfold Texts
      rw [List.length_append, List.map_append]
      exact h1
/-- a row of texts is none of a disk's or a log's blocks -/
theorem LogOn.notText {W w : World} {b g bm lb : Nat} {D : DS} {L : LS} (h : LogOn W w b g bm lb D L) {k : Nat} (hk : ∃ cs f, w.heap[k]? = some (.cells cs 9 f)) : ¬ FootL b g bm lb k := by
  obtain ⟨cs, f, hk⟩ := hk
  rintro ((rfl | rfl | rfl) | rfl)
  · have := h.at_.disk.blk.symm.trans hk
    simp only [Option.some.injEq, Obj.cells.injEq] at this
    exact absurd this.2.1 (by decide)
  · have := h.at_.disk.row.symm.trans hk
    simp only [Option.some.injEq, Obj.cells.injEq] at this
    exact absurd this.2.1 (by decide)
  · obtain ⟨es, clock, hb, _⟩ := h.at_.disk.map
    have := hb.symm.trans hk
    cases this
  · have := h.log.symm.trans hk
    simp only [Option.some.injEq, Obj.cells.injEq] at this
    exact absurd this.2.1 (by decide)
theorem at_notText {W w : World} {b g bm : Nat} {D : DS} (h : At W w b g bm D) {k : Nat} (hk : ∃ cs f, w.heap[k]? = some (.cells cs 9 f)) : ¬ Foot b g bm k := by
  obtain ⟨cs, f, hk⟩ := hk
  rintro (rfl | rfl | rfl)
  · have := h.disk.blk.symm.trans hk
    simp only [Option.some.injEq, Obj.cells.injEq] at this
    exact absurd this.2.1 (by decide)
  · have := h.disk.row.symm.trans hk
    simp only [Option.some.injEq, Obj.cells.injEq] at this
    exact absurd this.2.1 (by decide)
  · obtain ⟨es, clock, hb, _⟩ := h.disk.map
    have := hb.symm.trans hk
    cases this
theorem texts_at {W w wr : World} {b g bm lb base : Nat} {D : DS} {L : LS} {v : Value} {l : List Bs} (h : LogOn W w b g bm lb D L) (ht : Texts w base v l) (hk : Kp (FootL b g bm lb) w wr) : Texts wr base v l :=
  ht.kp hk (fun _ _ _ hs => h.notText hs)

theorem Texts.own_text {w : World} {base : Nat} {v : Value} {l : List Bs} (h : Texts w base v l) {k : Nat} (hk : v.ownBlock = some k) : base ≤ k ∧ ∃ cs f, w.heap[k]? = some (.cells cs 9 f) := by
  rcases h.2 with ⟨rfl, _⟩ | ⟨g, cap, cur, rfl, hb, hg, _⟩
  · exact absurd hk (by simp [Value.ownBlock])
  · obtain rfl : g = k := by simpa [Value.ownBlock] using hk
    exact ⟨hb, _, _, hg⟩
theorem LogOn.grown {W w w' : World} {b g bm lb : Nat} {D : DS} {L : LS} {row : Option Nat} (h : LogOn W w b g bm lb D L) (hg : w.grownBy w' row) (hr : ∀ k, row = some k → W.heap.size ≤ k ∧ ¬ FootL b g bm lb k) : LogOn W w' b g bm lb D L :=
  ⟨⟨h.at_.disk.same hg.size (fun k hk => hg.block k (h.at_.disk.lt hk) (fun e => (hr k e.symm).2 (.inl hk))), h.at_.bel.grown hg h.at_.bel.size (fun k e => (hr k e).1), h.at_.hb, h.at_.hg, h.at_.hm⟩,
    (hg.block lb h.lt (fun e => (hr lb e.symm).2 (.inr rfl))).trans h.log, h.hlb, h.nf⟩
end Go.Proofs.YtoafebndlldclaaDoor.Wl
