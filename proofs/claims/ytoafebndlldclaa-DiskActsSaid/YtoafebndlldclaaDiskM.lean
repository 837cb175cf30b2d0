/- What a disk is in memory: its struct, its rows of sectors, its map of what was written. -/
import Derived.Test.YtoafebndlldclaaDiskP
import Derived.Test.YtoafebndlldclaaDiskL
import Derived.Test.YtoafebndlldclaaProg
import Derived.Deep.Draws
namespace Go.Proofs.Ytoafebndlldclaa.Dk
open Go Go.RowKit Go.ChangeMaps Go.MapKept

theorem byteCells_inj : ∀ {a b : Bs}, Lib.byteCells a = Lib.byteCells b → a = b := by
  intro a
  induction a with
  | nil => intro b h; cases b with
    | nil => rfl
    | cons c b => simp [Lib.byteCells] at h
  | cons x a ih => intro b h; cases b with
    | nil => simp [Lib.byteCells] at h
    | cons y b =>
      simp only [Lib.byteCells, List.map_cons, List.cons.injEq] at h
      obtain ⟨h1, h2⟩ := h
      have e : (x.toNat : Int) = y.toNat := by simpa using h1
      have : x = y := UInt8.toNat_inj.1 (by omega)
      rw [this, ih h2]

theorem agg_inj {a b : Bs} (h : (Value.agg (Lib.byteCells a).toArray) = .agg (Lib.byteCells b).toArray) : a = b := by
  injection h with h
  exact byteCells_inj (by simpa using congrArg Array.toList h)

open Classical in
/-- how a sector reads -/
noncomputable def secElem (v : Value) : Option (DataW Unit × List MemPlace) :=
  if h : ∃ l : Bs, l.length = 64 ∧ v = .agg (Lib.byteCells l).toArray then some (.lit (.string h.choose), []) else none

theorem secElem_mk {l : Bs} (hl : l.length = 64) : secElem (.agg (Lib.byteCells l).toArray) = some (.lit (.string l), []) := by
  have h : ∃ l' : Bs, l'.length = 64 ∧ (Value.agg (Lib.byteCells l).toArray) = .agg (Lib.byteCells l').toArray := ⟨l, hl, rfl⟩
  unfold secElem
  rw [dif_pos h, ← agg_inj h.choose_spec.2]

theorem secElem_inv {v : Value} {y : DataW Unit × List MemPlace} (h : secElem v = some y) : ∃ l : Bs, l.length = 64 ∧ v = .agg (Lib.byteCells l).toArray ∧ y = (.lit (.string l), []) := by
  unfold secElem at h
  split at h
  · rename_i hx
    cases h
    exact ⟨hx.choose, hx.choose_spec.1, hx.choose_spec.2, rfl⟩
  · cases h

/-! ### what was written, as a map reads -/
def ents : Nat → List (Option Bs) → List (Lit × DataW Unit)
  | _, [] => []
  | k, none :: r => ents (k + 1) r
  | k, some s :: r => (.int .i64 k, .lit (.string s)) :: ents (k + 1) r
def datum (l : List (Option Bs)) : DataW Unit := .map (ents 0 l)

theorem ents_key {l : List (Option Bs)} : ∀ {k : Nat} {p}, p ∈ ents k l → ∃ i : Nat, k ≤ i ∧ p.1 = .int .i64 i := by
  induction l with
  | nil => intro k p h; simp [ents] at h
  | cons x l ih =>
    intro k p h
    cases x with
    | none => obtain ⟨i, h1, h2⟩ := ih h; exact ⟨i, by omega, h2⟩
    | some s =>
      rcases List.mem_cons.1 h with rfl | h
      · exact ⟨k, Nat.le_refl _, rfl⟩
      · obtain ⟨i, h1, h2⟩ := ih h; exact ⟨i, by omega, h2⟩

theorem sameKey_int (a b : Int) : (Lit.int .i64 a).sameKey (.int .i64 b) = decide (a = b) := by simp [Lit.sameKey]

theorem ents_find {l : List (Option Bs)} : ∀ {k : Nat} {x : Int}, (ents k l).find? (fun p => p.1.sameKey (.int .i64 x)) = if (k : Int) ≤ x then (match l[(x - k).toNat]? with | some (some s) => some (.int .i64 x, .lit (.string s)) | _ => none) else none := by
  induction l with
  | nil => intro k x; simp [ents]
  | cons y l ih =>
    intro k x
    cases y with
    | none =>
      simp only [ents]
      rw [ih]
      by_cases h : (k : Int) ≤ x
      · by_cases e : x = k
        · subst e; rw [if_neg (by omega), if_pos h]; simp
        · rw [if_pos (by omega), if_pos h, show (x - (k : Int)).toNat = (x - ((k + 1 : Nat) : Int)).toNat + 1 from by omega, List.getElem?_cons_succ]
      · rw [if_neg (by omega), if_neg h]
    | some s =>
      simp only [ents, List.find?_cons, sameKey_int]
      by_cases e : (k : Int) = x
      · subst e
        simp
      · rw [decide_eq_false e, ih]
        by_cases h : (k : Int) ≤ x
        · rw [if_pos (by omega), if_pos h, show (x - (k : Int)).toNat = (x - ((k + 1 : Nat) : Int)).toNat + 1 from by omega, List.getElem?_cons_succ]
        · rw [if_neg (by omega), if_neg h]

theorem datum_at (l : List (Option Bs)) (i : Nat) (zd : DataW Unit) : (datum l).atKey (.int .i64 i) zd = match l[i]? with | some (some s) => .lit (.string s) | _ => zd := by
  simp only [datum, DataW.atKey, ents_find]
  rw [if_pos (by omega)]
  rw [show ((i : Int) - ((0 : Nat) : Int)).toNat = i from by omega]
  cases l[i]? with
  | none => rfl
  | some y => cases y <;> rfl

theorem datum_hit {l : List (Option Bs)} {x : Int} {c : Bs} (h : ∀ zd, (datum l).atKey (.int .i64 x) zd = .lit (.string c)) : ∃ i : Nat, x = i ∧ l[i]? = some (some c) := by
  have h0 := h (.map [])
  simp only [datum, DataW.atKey, ents_find] at h0
  by_cases hx : ((0 : Nat) : Int) ≤ x
  · rw [if_pos hx] at h0
    refine ⟨x.toNat, by omega, ?_⟩
    rw [show (x - ((0 : Nat) : Int)).toNat = x.toNat from by omega] at h0
    cases hl : l[x.toNat]? with
    | none => rw [hl] at h0; simp at h0
    | some y =>
      cases y with
      | none => rw [hl] at h0; simp at h0
      | some s => rw [hl] at h0; simp at h0; rw [h0]
  · rw [if_neg hx] at h0; simp at h0

theorem datum_has (l : List (Option Bs)) (i : Nat) : Maps.has (datum l) (.int .i64 i) = (l.getD i none).isSome := by
  cases hl : l.getD i none with
  | none =>
    refine Maps.has_false_of_atKey fun z => ?_
    rw [datum_at]
    rw [List.getD_eq_getElem?_getD] at hl
    cases h : l[i]? with
    | none => rfl
    | some y => rw [h] at hl; simp at hl; subst hl; rfl
  | some s =>
    refine Maps.has_true_of_atKey (y := .lit (.string s)) fun z => ?_
    rw [datum_at]
    rw [List.getD_eq_getElem?_getD] at hl
    cases h : l[i]? with
    | none => rw [h] at hl; simp at hl
    | some y => rw [h] at hl; simp at hl; subst hl; rfl

theorem ents_filter {l : List (Option Bs)} {k i : Nat} (h : i < k) : (ents k l).filter (fun p => !p.1.sameKey (.int .i64 i)) = ents k l := by
  rw [List.filter_eq_self]
  intro p hp
  obtain ⟨j, h1, h2⟩ := ents_key hp
  rw [h2, sameKey_int, decide_eq_false (by omega)]; rfl

theorem ents_insert {l : List (Option Bs)} {k i : Nat} (h : i < k) (d : DataW Unit) : DataW.insert (.int .i64 i, d) (ents k l) = (.int .i64 i, d) :: ents k l := by
  cases hl : ents k l with
  | nil => rfl
  | cons p r =>
    obtain ⟨j, h1, h2⟩ := ents_key (p := p) (by rw [hl]; simp)
    unfold DataW.insert
    rw [if_pos]
    rw [h2]; simp [Lit.before]; omega

theorem ents_put {s : Bs} : ∀ {l : List (Option Bs)} {k i : Nat}, k ≤ i → i < k + l.length →
    DataW.insert (.int .i64 i, .lit (.string s)) ((ents k l).filter (fun p => !p.1.sameKey (.int .i64 i))) = ents k (l.set (i - k) (some s)) := by
  intro l
  induction l with
  | nil => intro k i h1 h2; simp at h2; omega
  | cons x l ih =>
    intro k i h1 h2
    by_cases e : i = k
    · subst e
      rw [Nat.sub_self, List.set_cons_zero]
      cases x with
      | none =>
        simp only [ents]
        rw [ents_filter (by omega), ents_insert (by omega)]
      | some y =>
        simp only [ents, List.filter_cons, sameKey_int, decide_true, Bool.not_true, Bool.false_eq_true, if_false]
        rw [ents_filter (by omega), ents_insert (by omega)]
    · have h3 : i < k + 1 + l.length := by simp at h2; omega
      rw [show i - k = (i - (k + 1)) + 1 from by omega, List.set_cons_succ]
      cases x with
      | none => exact ih (by omega) h3
      | some y =>
        have hne : ((k : Int) = (i : Int)) = False := by simp; omega
        simp only [ents, List.filter_cons, sameKey_int, hne, decide_false, Bool.not_false, if_true]
        unfold DataW.insert
        rw [if_neg (by simp [Lit.before]; omega)]
        rw [ih (by omega) h3]

theorem datum_put (l : List (Option Bs)) (i : Nat) (h : i < l.length) (s : Bs) : (datum l).put (.int .i64 i) (.lit (.string s)) = datum (l.set i (some s)) := by
  simp only [datum, DataW.put]
  rw [ents_put (by omega) (by omega)]
  rfl

theorem ents_length (l : List (Option Bs)) : ∀ k, (ents k l).length ≤ l.length := by
  induction l with
  | nil => intro k; simp [ents]
  | cons x l ih =>
    intro k
    have := ih (k + 1)
    cases x <;> simp [ents] <;> omega
theorem datum_size (l : List (Option Bs)) : Maps.size (datum l) ≤ l.length := ents_length l 0
theorem datum_none (l : List (Option Bs)) : datum (l.map fun _ => none) = .map [] := by
  unfold datum
  congr 1
  have : ∀ (l : List (Option Bs)) (k : Nat), ents k (l.map fun _ => none) = [] := by
    intro l
    induction l with
    | nil => intro k; rfl
    | cons x l ih => intro k; exact ih (k + 1)
  exact this l 0

/-! ### the rows -/
theorem flat_length {l : List Bs} (h : ∀ s ∈ l, s.length = 64) : l.flatten.length = l.length * 64 := by
  induction l with
  | nil => rfl
  | cons x l ih => simp [ih (fun s hs => h s (by simp [hs])), h x (by simp)]; omega

theorem flat_at {l : List Bs} (h : ∀ s ∈ l, s.length = 64) {i : Nat} {x : Bs} (hi : l[i]? = some x) (j : Nat) (hj : j < 64) : l.flatten[i * 64 + j]? = x[j]? := by
  induction l generalizing i with
  | nil => simp at hi
  | cons y l ih =>
    have hy := h y (by simp)
    rw [List.flatten_cons]
    cases i with
    | zero =>
      simp at hi; subst hi
      rw [Nat.zero_mul, Nat.zero_add, List.getElem?_append_left (by omega)]
    | succ i =>
      rw [List.getElem?_cons_succ] at hi
      rw [List.getElem?_append_right (by omega), hy, show (i + 1) * 64 + j - 64 = i * 64 + j from by omega]
      exact ih (fun s hs => h s (by simp [hs])) hi

theorem cells_flat {l : List Bs} (h : ∀ s ∈ l, s.length = 64) {i : Nat} {x : Bs} (hi : l[i]? = some x) : ∀ j v, (Lib.byteCells x)[j]? = some v → (Lib.byteCells l.flatten).toArray[i * 64 + j]? = some v := by
  intro j v hv
  have hx : x.length = 64 := h x (List.mem_of_getElem? hi)
  have hj : j < 64 := by
    have := (List.getElem?_eq_some_iff.1 hv).1
    rw [Lib.byteCells_length] at this; omega
  simp only [Lib.byteCells, List.getElem?_toArray, List.getElem?_map] at hv ⊢
  rw [flat_at h hi j hj]; exact hv

theorem flat_splice {l : List Bs} (h : ∀ s ∈ l, s.length = 64) {i : Nat} {o : Bs} (hi : l[i]? = some o) (x : Bs) (hx : x.length ≤ 64) :
    splice (Lib.byteCells l.flatten) (i * 64) (Lib.byteCells x) = Lib.byteCells (l.set i (x ++ o.drop x.length)).flatten := by
  have hmap : ∀ (a b : Bs) (k : Nat), splice (Lib.byteCells a) k (Lib.byteCells b) = Lib.byteCells (splice a k b) := by
    intro a b k
    simp [splice, Lib.byteCells, List.map_take, List.map_drop]
  rw [hmap]
  congr 1
  induction l generalizing i with
  | nil => simp at hi
  | cons y l ih =>
    have hy := h y (by simp)
    cases i with
    | zero =>
      simp at hi; subst hi
      simp only [splice, Nat.zero_mul, List.take_zero, List.nil_append, Nat.zero_add, List.flatten_cons, List.set_cons_zero, List.append_assoc]
      rw [List.drop_append_of_le_length (by omega)]
    | succ i =>
      rw [List.getElem?_cons_succ] at hi
      rw [List.set_cons_succ, List.flatten_cons, List.flatten_cons, ← ih (fun s hs => h s (by simp [hs])) hi]
      simp only [splice]
      rw [List.take_append, List.take_of_length_le (by omega), hy, show (i + 1) * 64 - 64 = i * 64 from by omega, List.drop_append, List.drop_eq_nil_of_le (by omega), List.nil_append, hy, show (i + 1) * 64 + x.length - 64 = i * 64 + x.length from by omega, List.append_assoc]

/-! ### the disk -/
structure IsDisk (W : World) (b g bm : Nat) (D : DS) : Prop where
  ok : D.Ok
  blk : W.heap[b]? = some (.cells #[.slice (some ⟨g, 0, none⟩) D.olds.length D.olds.length, .map (some bm), .int .i64 D.fuse, .bool D.off] 56 (0, 0))
  row : W.heap[g]? = some (.cells (Lib.byteCells D.olds.flatten).toArray 58 (0, 0))
  map : W.ownsMap Try.prog 3 secElem bm (Maps.size (datum D.news)) (datum D.news)

def Foot (b g bm : Nat) (k : Nat) : Prop := k = b ∨ k = g ∨ k = bm

section
variable {W W' : World} {b g bm : Nat} {D : DS}
theorem IsDisk.lt_b (h : IsDisk W b g bm D) : b < W.heap.size := (Array.getElem?_eq_some_iff.1 h.blk).1
theorem IsDisk.lt_g (h : IsDisk W b g bm D) : g < W.heap.size := (Array.getElem?_eq_some_iff.1 h.row).1
theorem IsDisk.lt_m (h : IsDisk W b g bm D) : bm < W.heap.size := h.map.lt
theorem IsDisk.lt (h : IsDisk W b g bm D) {k : Nat} (hk : Foot b g bm k) : k < W.heap.size := by
  rcases hk with rfl | rfl | rfl
  · exact h.lt_b
  · exact h.lt_g
  · exact h.lt_m
theorem IsDisk.bg (h : IsDisk W b g bm D) : b ≠ g := by
  rintro rfl
  have := h.blk.symm.trans h.row
  simp at this
theorem IsDisk.mb (h : IsDisk W b g bm D) : bm ≠ b := by
  rintro rfl
  obtain ⟨es, clock, hb, _⟩ := h.map
  have := h.blk.symm.trans hb
  simp at this
theorem IsDisk.mg (h : IsDisk W b g bm D) : bm ≠ g := by
  rintro rfl
  obtain ⟨es, clock, hb, _⟩ := h.map
  have := h.row.symm.trans hb
  simp at this
theorem IsDisk.same (h : IsDisk W b g bm D) (_hs : W.heap.size ≤ W'.heap.size) (hk : ∀ k, Foot b g bm k → W'.heap[k]? = W.heap[k]?) : IsDisk W' b g bm D := by
  refine ⟨h.ok, (hk b (.inl rfl)).trans h.blk, (hk g (.inr (.inl rfl))).trans h.row, ?_⟩
  obtain ⟨es, clock, hb, r⟩ := h.map
  exact ⟨es, clock, (hk bm (.inr (.inr rfl))).trans hb, r⟩
theorem IsDisk.kept {S : Nat → Prop} (h : IsDisk W b g bm D) (k : Kp S W W') (hS : ∀ k, Foot b g bm k → ¬ S k) : IsDisk W' b g bm D := h.same k.size fun j hj => k.block j (h.lt hj) (hS j hj)
theorem IsDisk.below (h : IsDisk W b g bm D) (k : Below W.heap.size W W') : IsDisk W' b g bm D := h.same k.size fun j hj => k.block j (h.lt hj)
theorem IsDisk.alloc (h : IsDisk W b g bm D) (o : Obj) : IsDisk (W.alloc o) b g bm D := h.below ((Below.refl _ _).alloc (Nat.le_refl _) o)
theorem IsDisk.drew (h : IsDisk W b g bm D) : IsDisk W.drew b g bm D := h.same (Nat.le_refl _) fun _ _ => rfl
theorem IsDisk.drewN (h : IsDisk W b g bm D) (n : Nat) : IsDisk (W.drewN n) b g bm D := h.same (Nat.le_refl _) fun _ _ => rfl
theorem IsDisk.setCell (h : IsDisk W b g bm D) {p : Addr} (hp : ¬ Foot b g bm p.block) (u : Value) : IsDisk (W.setCell p u) b g bm D :=
  h.same (by simp [World.setCell]) fun j hj => Below.heap_setCell _ _ _ _ (fun e => hp (by rw [← e]; exact hj))
theorem IsDisk.setRow (h : IsDisk W b g bm D) {p : Nat} (hp : ¬ Foot b g bm p) (cs : Array Value) : IsDisk (W.setRow p cs) b g bm D :=
  h.same (by simp [World.setRow]) fun j hj => setRow_other W p j cs (fun e => hp (by rw [← e]; exact hj))

theorem IsDisk.cell (h : IsDisk W b g bm D) (j : Nat) : W.cell? ⟨b, j, none⟩ = (#[.slice (some ⟨g, 0, none⟩) D.olds.length D.olds.length, .map (some bm), .int .i64 D.fuse, .bool D.off] : Array Value)[j]? := cell_of_row W b j _ _ _ h.blk
theorem IsDisk.c0 (h : IsDisk W b g bm D) : W.cell? ⟨b, 0, none⟩ = some (.slice (some ⟨g, 0, none⟩) D.olds.length D.olds.length) := h.cell 0
theorem IsDisk.c1 (h : IsDisk W b g bm D) : W.cell? ⟨b, 1, none⟩ = some (.map (some bm)) := h.cell 1
theorem IsDisk.c2 (h : IsDisk W b g bm D) : W.cell? ⟨b, 2, none⟩ = some (.int .i64 D.fuse) := h.cell 2
theorem IsDisk.c3 (h : IsDisk W b g bm D) : W.cell? ⟨b, 3, none⟩ = some (.bool D.off) := h.cell 3
theorem IsDisk.free (h : IsDisk W b g bm D) (j : Nat) : W.frozen? ⟨b, j, none⟩ = false := frozen_of_row W b j _ _ h.blk

theorem IsDisk.setFuse (h : IsDisk W b g bm D) (f : Nat) (hf : f ≤ 9223372036854775807) : IsDisk (W.setCell ⟨b, 2, none⟩ (.int .i64 f)) b g bm { D with fuse := f } :=
  ⟨Ok.fuse' h.ok hf D.off, by have := heap_setCell_same W b 2 _ _ (.int .i64 f) h.blk; simpa using this, (Below.heap_setCell _ _ _ _ h.bg.symm).trans h.row, h.map.setCell h.mb _⟩
theorem IsDisk.setOff (h : IsDisk W b g bm D) (x : Bool) : IsDisk (W.setCell ⟨b, 3, none⟩ (.bool x)) b g bm { D with off := x } :=
  ⟨Ok.fuse' h.ok h.ok.fuse x, by have := heap_setCell_same W b 3 _ _ (.bool x) h.blk; simpa using this, (Below.heap_setCell _ _ _ _ h.bg.symm).trans h.row, h.map.setCell h.mb _⟩

/-- the map has turned -/
theorem IsDisk.turned {n : Nat} {news : List (Option Bs)} (h : IsDisk W b g bm D) (ht : W.mapTurned W' bm) (hm : W'.ownsMap Try.prog 3 secElem bm n (datum news)) (hl : news.length = D.olds.length) (hn : ∀ s, some s ∈ news → s.length = 64) : IsDisk W' b g bm { D with news := news } :=
  ⟨⟨hl, h.ok.lo, h.ok.hi, h.ok.old, hn, h.ok.fuse⟩, (ht.grown.block b h.lt_b (by simpa using h.mb.symm)).trans h.blk, (ht.grown.block g h.lt_g (by simpa using h.mg.symm)).trans h.row, ownsMap_size hm⟩
/-- a sector has been written -/
theorem IsDisk.rowSet (h : IsDisk W b g bm D) {i : Nat} {o : Bs} (hi : D.olds[i]? = some o) {x : Bs} (hx : x.length ≤ 64) :
    IsDisk (W.setRow g (splice (Lib.byteCells D.olds.flatten).toArray.toList (i * 64) (Lib.byteCells x)).toArray) b g bm { D with olds := D.olds.set i (x ++ o.drop x.length) } := by
  have ho : o.length = 64 := h.ok.old o (List.mem_of_getElem? hi)
  refine ⟨⟨by simp [h.ok.len], by simp [h.ok.lo], by simp [h.ok.hi], ?_, h.ok.new, h.ok.fuse⟩, ?_, ?_, ?_⟩
  · intro s hs
    rcases List.mem_or_eq_of_mem_set hs with hs | hs
    · exact h.ok.old s hs
    · rw [hs, List.length_append, List.length_drop]; omega
  · rw [setRow_other _ _ _ _ h.bg, List.length_set]; exact h.blk
  · rw [List.toList_toArray, flat_splice h.ok.old hi x hx]
    exact setRow_heap W g _ _ _ _ h.row
  · obtain ⟨es, clock, hb, r⟩ := h.map
    exact ⟨es, clock, (setRow_other _ _ _ _ h.mg).trans hb, r⟩
end
end Go.Proofs.Ytoafebndlldclaa.Dk
