/- append of a row of texts to texts of the call's own, as one law of the walk and of a region that draws. -/
import Derived.Test.YtoafebndlldclaaDoorAppTx
import Derived.Deep.AppendLies
import Derived.Deep.RegionLaw
namespace Go.Proofs.YtoafebndlldclaaDoor.Wl
open Go Go.RowKit Go.Shelf Dk Fr

theorem run_append_row {w : World} (ty : TypeId) (base : Nat) (v : Value) (l : List Bs) (hown : Texts w base v l) (u : Value) (m : List Bs) (hr : RowT w u m) (hl : l.length + m.length ≤ 1000000) (hbase : base ≤ w.heap.size) (hn : ∀ c, u = .slice none 0 c → c = 0) :
    ∃ v' w', (Builtin.append_ #[22, 22] ty #[v, u]).run Tryd.prog w = .ok v' w' ∧ Texts w' base v' (l ++ m) ∧ w.grownBy w' v.ownBlock ∧ (v'.ownBlock = v.ownBlock ∨ v'.ownBlock = some w.heap.size) := by
  obtain ⟨i0, hi, hz0, hz1, hz2⟩ := info_parts infoS
  obtain ⟨a, cap, rfl, h2, h3, h4⟩ := hr
  cases a with
  | none =>
    have hm : m = [] := by
      cases m with
      | nil => rfl
      | cons x m => obtain ⟨_, _, h, _⟩ := h4 (by simp); cases h
    subst hm
    have hc := hn cap rfl
    subst hc
    have hrun := run_append_owned_none (P := Tryd.prog) (w := w) base 22 ty 9 i0 1 Tryd.underlying22 hi v l.length _ hown
    exact ⟨v, w, hrun, by rw [List.append_nil]; exact hown, ⟨rfl, rfl, rfl, Nat.le_refl _, fun _ _ _ => rfl⟩, .inl rfl⟩
  | some ad =>
    obtain ⟨v', w', hr, o, g, _, b⟩ := run_append_own_at (P := Tryd.prog) w base 22 ty 9 i0 (.string ⟨#[]⟩) 1 16 Tryd.underlying22 hi hz0 hz1 hz2 rfl (by decide) v l.length _ hown ad m.length cap (m.map fun t => .string ⟨t.toArray⟩) (by simp) (by
      intro j x hx
      obtain ⟨bb, off, e, _, hc⟩ := h4 (by rintro rfl; simp at hx)
      cases e
      rw [show (⟨bb, off, none⟩ : Addr).add j = ⟨bb, off + j, none⟩ from by unfold Addr.add; split <;> simp_all]
      rw [List.getElem?_map] at hx
      obtain ⟨t, ht, rfl⟩ := Option.map_eq_some_iff.1 hx
      exact hc j t ht) (by
      intro x hx
      obtain ⟨t, _, rfl⟩ := List.mem_map.1 hx
      rfl) (by unfold maxLen; omega) (by omega) hbase
    refine ⟨v', w', hr, ?_, g, b⟩
    unfold Texts
    rw [List.length_append, List.map_append]
    exact o

theorem wp_append_row {w : World} {o : Oper} {a : Act} {K : Act → World → Prop} {Q : Exit → Act → World → Prop} (s x : Operand)
    (ho : o.op = .call { callee := .builtin .append, args := #[s, x], argTypes := #[22, 22] }) (base : Nat) (v : Value) (l : List Bs) (hs : a.eval s = v) (hown : Texts w base v l)
    (u : Value) (m : List Bs) (hx : a.eval x = u) (hr : RowT w u m) (hl : l.length + m.length ≤ 1000000) (hbase : base ≤ w.heap.size) (hn : ∀ c, u = .slice none 0 c → c = 0)
    (h : ∀ v' w', Texts w' base v' (l ++ m) → w.grownBy w' v.ownBlock → (v'.ownBlock = v.ownBlock ∨ v'.ownBlock = some w.heap.size) → K (a.put o.dst v') w') : o.wp Tryd.prog a w K Q := by
  obtain ⟨v', w', hrun, h1, h2, h3⟩ := run_append_row o.type base v l hown u m hr hl hbase hn
  unfold Oper.wp execOp
  simp only [ho, resolve, invoke, builtin, Sem.run_bind, Sem.run_pure, Result.andThen_ok, List.map_toArray, List.map_cons, List.map_nil, hs, hx, hrun]
  exact h v' w' h1 h2 h3
theorem wpList_append_row {w : World} {ops : Array Oper} {rest : List Oper} {o : Oper} {a : Act} {Q : Exit → Act → World → Prop} (hgd : o.guard = none) (s x : Operand)
    (ho : o.op = .call { callee := .builtin .append, args := #[s, x], argTypes := #[22, 22] }) (base : Nat) (v : Value) (l : List Bs) (hs : a.eval s = v) (hown : Texts w base v l)
    (u : Value) (m : List Bs) (hx : a.eval x = u) (hr : RowT w u m) (hl : l.length + m.length ≤ 1000000) (hbase : base ≤ w.heap.size) (hn : ∀ c, u = .slice none 0 c → c = 0)
    (h : ∀ v' w', Texts w' base v' (l ++ m) → w.grownBy w' v.ownBlock → (v'.ownBlock = v.ownBlock ∨ v'.ownBlock = some w.heap.size) → wpList Tryd.prog ops Q rest (a.put o.dst v') w') : wpList Tryd.prog ops Q (o :: rest) a w :=
  wpList_plain hgd fun _ hK => wp_append_row s x ho base v l hs hown u m hx hr hl hbase hn fun v' w' h1 h2 h3 => hK _ _ (h v' w' h1 h2 h3)
theorem step_append_row {w : World} {ops : Array Oper} {o : Oper} {a : Act} {K : Act → World → Prop} {Q : Exit → Act → World → Prop} {E : Prop} (hgd : o.guard = none) (s x : Operand)
    (ho : o.op = .call { callee := .builtin .append, args := #[s, x], argTypes := #[22, 22] }) (base : Nat) (v : Value) (l : List Bs) (hs : a.eval s = v) (hown : Texts w base v l)
    (u : Value) (m : List Bs) (hx : a.eval x = u) (hr : RowT w u m) (hl : l.length + m.length ≤ 1000000) (hbase : base ≤ w.heap.size) (hn : ∀ c, u = .slice none 0 c → c = 0)
    (h : ∀ v' w', Texts w' base v' (l ++ m) → w.grownBy w' v.ownBlock → (v'.ownBlock = v.ownBlock ∨ v'.ownBlock = some w.heap.size) → K (a.put o.dst v') w') :
    if Region.wanted o (yielded ops a.tmps) = true then Oper.wp Tryd.prog o a w K Q else E := by
  have hw : Region.wanted o (yielded ops a.tmps) = true := by simp [Region.wanted, hgd]
  rw [if_pos hw]
  exact wp_append_row s x ho base v l hs hown u m hx hr hl hbase hn h

/-- a part of a row -/
theorem row_take {w : World} {A : Option Addr} {n c : Nat} {l : List Bs} (h : RowT w (.slice A n c) l) (k : Nat) (hk : k ≤ l.length) : RowT w (.slice A k c) (l.take k) := by
  obtain ⟨a, cap, e, h2, h3, h4⟩ := h
  cases e
  refine ⟨A, c, by rw [List.length_take, Nat.min_eq_left hk], by rw [List.length_take]; omega, h3, fun hne => ?_⟩
  obtain ⟨b, off, k0, k1, k2⟩ := h4 (by rintro rfl; simp at hne)
  refine ⟨b, off, k0, k1, fun i x hx => k2 i x ?_⟩
  rw [List.getElem?_take] at hx
  split at hx
  · exact hx
  · cases hx
theorem row_drop {w : World} {b off n c : Nat} {l : List Bs} (h : RowT w (.slice (some ⟨b, off, none⟩) n c) l) (k : Nat) (hk : k ≤ l.length) (p : Addr) (hp : k < l.length → p = ⟨b, off + k, none⟩) : RowT w (.slice (some p) (n - k) (c - k)) (l.drop k) := by
  obtain ⟨a, cap, e, h2, h3, h4⟩ := h
  cases e
  refine ⟨some p, c - k, by rw [List.length_drop], by rw [List.length_drop]; omega, by omega, fun hne => ?_⟩
  obtain ⟨b', off', k0, k1, k2⟩ := h4 (by rintro rfl; simp at hne)
  cases k0
  have hkl : k < l.length := by
    rcases Nat.lt_or_ge k l.length with h | h
    · exact h
    · exact absurd (List.drop_eq_nil_of_le h) hne
  refine ⟨b, off + k, by rw [hp hkl], k1, fun i x hx => ?_⟩
  rw [List.getElem?_drop] at hx
  rw [Nat.add_assoc]
  exact k2 (k + i) x hx

/-! ### plain -/
structure AllIs (k : Nat) (x : List Bs) (D1 D2 D3 : DS) (L1 L2 L3 : LS) : Prop where
  r1 : openL (new 300) 0 300 5 = (D1, some L1, [], 0)
  r2 : appendL D1 L1 (x.take k ++ [zeros 8193] ++ x.drop k) = (D1, L1, 71)
  r3 : appendL D1 L1 x = (D2, L2, 0)
  r4 : openL D2 0 300 5 = (D3, some L3, x, 0)
  s1 : Sane D1.olds.length L1
  s2 : Sane D2.olds.length L2
  many : L1.many = 0
  room : L2.room = L1.room - (szs x : Nat)
theorem all_plain (k : Nat) (l : List Bs) : ∃ D1 D2 D3 L1 L2 L3, AllIs k (cutL l) D1 D2 D3 L1 L2 L3 := by
  have hsm : ∀ t ∈ cutL l, t.length ≤ 8192 := fun t ht => by have := cut_small l t ht; omega
  have hsz := szs_cut l
  obtain ⟨D1, L1, r1, o1⟩ := open_ok (fr := 0) (to_ := 300) (ep := 5) (new_calm (n := 300) (by omega) (by omega)) (by omega) (by rw [new_len]; omega) (by decide) rfl (recs := []) (by rw [bytes_new 300 300 0 (by omega)]; exact told_zeros (by decide) _)
  obtain ⟨D2, L2, r3, o2⟩ := append_ok (texts := cutL l) o1.good (o1.beside.fuse rfl) hsm (by rw [o1.efr, o1.eto]; simp only [szs]; omega)
  obtain ⟨D3, L3, r4, o3⟩ := reopen_ok o2.good (o2.beside.fuse (o1.beside.fuse rfl))
  rw [o2.efr, o2.eto, o2.eep, o1.efr, o1.eto, o1.eep, List.nil_append] at r4
  refine ⟨D1, D2, D3, L1, L2, L3, r1, ?_, r3, r4, o1.good.sane, o2.good.sane, o1.good.many, ?_⟩
  · unfold appendL
    rw [if_pos ⟨zeros 8193, by simp, by rw [zeros_length]; omega⟩]
  · unfold LS.room
    rw [o2.good.en, o1.good.en, o2.efr, o2.eto, List.nil_append]
    simp [szs]
end Go.Proofs.YtoafebndlldclaaDoor.Wl
