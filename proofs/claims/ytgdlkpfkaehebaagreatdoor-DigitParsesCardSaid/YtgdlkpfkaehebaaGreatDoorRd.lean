/- How an argument of numbers, bools, texts, slices and structs reads: one definition over the types' shapes, out of the claim's own reading. -/
import Derived.ChangeArms
import Derived.DataReads
import Derived.Below
namespace Go.Proofs.YtgdlkpfkaehebaaGreatDoor.Rd
open Go Go.RowKit

/-- the shapes; a struct is its fields, one behind the other, and 'fin' -/
inductive Ty where
  | int (q : IntKind)
  | bool
  | str
  | sl (e : Ty)
  | fld (a r : Ty)
  | fin

def Ty.den : Ty → Type
  | .int _ => Int
  | .bool => Bool
  | .str => ByteArray
  | .sl e => List e.den
  | .fld a r => a.den × r.den
  | .fin => Unit
def Ty.size : Ty → Nat
  | .int _ => 1
  | .bool => 1
  | .str => 1
  | .sl _ => 1
  | .fld a r => a.size + r.size
  | .fin => 0

/-- in world W the cells cs read as v -/
def Reads (W : World) : (t : Ty) → List Value → t.den → Prop
  | .int q, cs, (x : Int) => cs = [.int q x] ∧ (Lit.int q x).wf = true
  | .bool, cs, (x : Bool) => cs = [.bool x]
  | .str, cs, (s : ByteArray) => cs = [.string s] ∧ s.size ≤ maxLen
  | .sl e, cs, (l : List e.den) => ∃ a cap, cs = [.slice a l.length cap] ∧ l.length ≤ cap ∧ cap ≤ maxLen ∧ (l ≠ [] → ∃ b off, a = some ⟨b, off, none⟩ ∧ b < W.heap.size ∧
      ∀ i x, l[i]? = some x → ∃ cs', cs'.length = e.size ∧ (∀ j u, cs'[j]? = some u → W.cell? ⟨b, off + i * e.size + j, none⟩ = some u) ∧ Reads W e cs' x)
  | .fld a r, cs, (x, y) => Reads W a (cs.take a.size) x ∧ Reads W r (cs.drop a.size) y
  | .fin, _, _ => True

theorem Reads.kept {W W' : World} (h : Below W.heap.size W W') : ∀ (t : Ty) (cs : List Value) (v : t.den), Reads W t cs v → Reads W' t cs v := by
  intro t
  induction t with
  | int q => intro cs v hv; exact hv
  | bool => intro cs v hv; exact hv
  | str => intro cs v hv; exact hv
  | fin => intro cs v hv; exact hv
  | fld a r iha ihr => intro cs v hv; exact ⟨iha _ _ hv.1, ihr _ _ hv.2⟩
  | sl e ih =>
    intro cs v hv
    obtain ⟨a, cap, h1, h2, h3, h4⟩ := hv
    refine ⟨a, cap, h1, h2, h3, fun hne => ?_⟩
    obtain ⟨b, off, k0, k1, k2⟩ := h4 hne
    refine ⟨b, off, k0, Nat.lt_of_lt_of_le k1 h.size, fun i x hx => ?_⟩
    obtain ⟨cs', k3, k4, k5⟩ := k2 i x hx
    exact ⟨cs', k3, fun j u hj => (h.cell (p := ⟨b, off + i * e.size + j, none⟩) k1).trans (k4 j u hj), ih _ _ k5⟩

/-- type T of the program has this shape; the fields from an offset on have it -/
def Sh (P : Program) : Ty → (TypeId → Prop) × (List Field → Nat → Prop)
  | .int q => (fun T => P.underlying T = some (.int q), fun _ _ => False)
  | .bool => (fun T => P.underlying T = some .bool, fun _ _ => False)
  | .str => (fun T => P.underlying T = some .string, fun _ _ => False)
  | .sl e => (fun T => ∃ E, P.underlying T = some (.slice E) ∧ P.cellsOf E = e.size ∧ 0 < e.size ∧ (Sh P e).1 E, fun _ _ => False)
  | .fld a r => (fun T => ∃ f fs, P.underlying T = some (.struct (f :: fs).toArray) ∧ P.cellsOf T = a.size + r.size ∧ f.offset = 0 ∧ P.cellsOf f.type = a.size ∧ (Sh P a).1 f.type ∧ (Sh P r).2 fs a.size,
      fun l off => ∃ f fs, l = f :: fs ∧ f.offset = off ∧ P.cellsOf f.type = a.size ∧ (Sh P a).1 f.type ∧ (Sh P r).2 fs (off + a.size))
  | .fin => (fun T => P.underlying T = some (.struct #[]), fun l _ => l = [])

section
variable {H : Type} {enc : TypeId × Value → H} {P : Program} {W : World} {base : Nat} {spare : Nat → Bool} {held : Bool}

theorem reads_of : ∀ (t : Ty), (∀ T, (Sh P t).1 T → ∀ (fuel : Nat) (cs : List Value) x, DataW.trod enc P W base spare held fuel T cs = some x → ∃ v, Reads W t cs v) ∧
    (∀ fs off, (Sh P t).2 fs off → ∀ (n : Nat) (cs : List Value), cs.length = off + t.size → (∀ (i : Nat) (f : Field), fs[i]? = some f → ∃ y, DataW.trod enc P W base spare held n f.type ((cs.drop f.offset).take (P.cellsOf f.type)) = some y) → ∃ v, Reads W t (cs.drop off) v) := by
  intro t
  induction t with
  | int q =>
    refine ⟨fun T hT fuel cs x h => ?_, fun _ _ h => h.elim⟩
    obtain ⟨n, rfl, _, hw⟩ := DataW.trod_int hT h
    exact ⟨n, rfl, hw⟩
  | bool =>
    refine ⟨fun T hT fuel cs x h => ?_, fun _ _ h => h.elim⟩
    obtain ⟨n, rfl, _⟩ := DataW.trod_bool hT h
    exact ⟨n, rfl⟩
  | str =>
    refine ⟨fun T hT fuel cs x h => ?_, fun _ _ h => h.elim⟩
    obtain ⟨n, rfl, _, hw⟩ := DataW.trod_string hT h
    exact ⟨n, rfl, hw⟩
  | fin => exact ⟨fun T hT fuel cs x h => ⟨(), trivial⟩, fun fs off h n cs hl hf => ⟨(), trivial⟩⟩
  | sl e ih =>
    refine ⟨fun T hT fuel cs x h => ?_, fun _ _ h => h.elim⟩
    obtain ⟨E, hu, hE, hpos, hsh⟩ := hT
    rcases DataW.trod_slice hu h with ⟨rfl, _⟩ | ⟨a, len, cap, elems, rest, n, _, rfl, _, hb, hl, hm, hlen, hel, _, _⟩
    · exact ⟨[], none, 0, rfl, Nat.le_refl _, by decide, fun h => absurd rfl h⟩
    · by_cases h0 : len = 0
      · subst h0
        exact ⟨[], some a, cap, rfl, hl, hm, fun h => absurd rfl h⟩
      · have raw : ∀ i, i < len → ∃ cs', cs'.length = e.size ∧ (∀ j, j < e.size → W.cell? ((a.add (i * e.size)).add j) = cs'[j]?) ∧ ∃ v, Reads W e cs' v := by
          intro i hi
          have h1 := hel i hi
          rw [show elems[i]? = some elems[i] from List.getElem?_eq_getElem (by omega)] at h1
          obtain ⟨cs', h2, h3⟩ := Option.bind_eq_some_iff.1 h1
          obtain ⟨_, h4, h5⟩ := World.cells?_some h2
          rw [hE] at h4 h5
          exact ⟨cs', h4, h5, ih.1 E hsh n cs' _ h3⟩
        obtain ⟨c0, k1, k2, _⟩ := raw 0 (by omega)
        have hc := k2 0 hpos
        rw [show (a.add (0 * e.size)).add 0 = a from by simp [Addr.add], List.getElem?_eq_getElem (by omega)] at hc
        have hlt := World.block_lt_of_cell? _ _ hc
        have hsp : a = ⟨a.block, a.off, none⟩ := by
          obtain ⟨ab, ao, asp⟩ := a
          cases asp with
          | none => rfl
          | some s => unfold World.cell? at hc; simp at hc; split at hc <;> cases hc
        have each : ∀ i, ∃ v, i < len → ∃ cs', cs'.length = e.size ∧ (∀ j u, cs'[j]? = some u → W.cell? ⟨a.block, a.off + i * e.size + j, none⟩ = some u) ∧ Reads W e cs' v := by
          intro i
          by_cases hi : i < len
          · obtain ⟨cs', k1, k2, v, k3⟩ := raw i hi
            refine ⟨v, fun _ => ⟨cs', k1, fun j u hj => ?_, k3⟩⟩
            have hjl : j < e.size := by rw [← k1]; exact (List.getElem?_eq_some_iff.1 hj).1
            have := k2 j hjl
            rw [hj] at this
            rw [← this, hsp]
            congr 1
            unfold Addr.add
            by_cases j0 : j = 0
            · subst j0
              by_cases z : i * e.size = 0 <;> simp [z]
            · by_cases z : i * e.size = 0 <;> simp [z, j0]
          · obtain ⟨cs', k1, k2, v, k3⟩ := raw 0 (by omega)
            exact ⟨v, fun h => absurd h hi⟩
        obtain ⟨f, hf⟩ : ∃ f : Nat → e.den, ∀ i, i < len → ∃ cs', cs'.length = e.size ∧ (∀ j u, cs'[j]? = some u → W.cell? ⟨a.block, a.off + i * e.size + j, none⟩ = some u) ∧ Reads W e cs' (f i) :=
          ⟨fun i => (each i).choose, fun i => (each i).choose_spec⟩
        have hll : ((List.range len).map f).length = len := by simp
        refine ⟨(List.range len).map f, some a, cap, by rw [hll], by rw [hll]; exact hl, hm, fun _ => ⟨a.block, a.off, by rw [← hsp], hlt, fun i x hx => ?_⟩⟩
        have hi : i < len := by rw [← hll]; exact (List.getElem?_eq_some_iff.1 hx).1
        simp only [List.getElem?_map, List.getElem?_range hi, Option.map_some, Option.some.injEq] at hx
        rw [← hx]
        exact hf i hi
  | fld a r iha ihr =>
    have rest : ∀ (f : Field) (fs : List Field) (off : Nat), f.offset = off → P.cellsOf f.type = a.size → (Sh P a).1 f.type → (Sh P r).2 fs (off + a.size) → ∀ (n : Nat) (cs : List Value), cs.length = off + (a.size + r.size) →
        (∀ (i : Nat) (f' : Field), (f :: fs)[i]? = some f' → ∃ y, DataW.trod enc P W base spare held n f'.type ((cs.drop f'.offset).take (P.cellsOf f'.type)) = some y) → ∃ v, Reads W (.fld a r) (cs.drop off) v := by
      intro f fs off h1 h2 h3 h4 n cs hl hf
      obtain ⟨y, hy⟩ := hf 0 f rfl
      rw [h1, h2] at hy
      obtain ⟨v, hv⟩ := iha.1 f.type h3 n _ y hy
      obtain ⟨u, hu⟩ := ihr.2 fs (off + a.size) h4 n cs (by omega) (fun i f' hf' => hf (i + 1) f' (by simpa using hf'))
      exact ⟨(v, u), hv, by rw [List.drop_drop]; exact hu⟩
    refine ⟨fun T hT fuel cs x h => ?_, fun l off hT n cs hl hf => ?_⟩
    · obtain ⟨f, fs, hu, hc, h1, h2, h3, h4⟩ := hT
      obtain ⟨xs, n, _, _, hcl, hxl, hxs⟩ := DataW.trod_struct hu h
      have := rest f fs 0 h1 h2 h3 (by rw [Nat.zero_add]; exact h4) n cs (by rw [hcl, hc]; omega) (fun i f' hf' => ?_)
      · rw [List.drop_zero] at this; exact this
      · have h5 := hxs i f' (by simpa using hf')
        have hi : i < xs.length := by rw [hxl]; simpa using (List.getElem?_eq_some_iff.1 hf').1
        exact ⟨xs[i], by rw [h5, List.getElem?_eq_getElem hi]⟩
    · obtain ⟨f, fs, rfl, h1, h2, h3, h4⟩ := hT
      exact rest f fs off h1 h2 h3 h4 n cs hl hf

/-- a slice among the arguments -/
theorem reads_arg {t : Ty} {T : TypeId} (hT : (Sh P t).1 T) {v : Value} {d : DataW H} {p : List MemPlace} (h : DataW.Trod enc P W base spare held T v d p) : ∃ x, Reads W t v.cells.toList x := by
  obtain ⟨fuel, hf⟩ := h
  exact (reads_of t).1 T hT fuel _ _ hf
end

/-- a slice whose elements are one cell each -/
def RowOf {α : Type} (W : World) (enc : α → Value) (v : Value) (l : List α) : Prop := ∃ a cap, v = .slice a l.length cap ∧ l.length ≤ cap ∧ cap ≤ maxLen ∧ (l ≠ [] → ∃ b off, a = some ⟨b, off, none⟩ ∧ b < W.heap.size ∧ ∀ (i : Nat) x, l[i]? = some x → W.cell? ⟨b, off + i, none⟩ = some (enc x))

theorem RowOf.kept {α : Type} {W W' : World} {enc : α → Value} {v : Value} {l : List α} (h : Below W.heap.size W W') (hr : RowOf W enc v l) : RowOf W' enc v l := by
  obtain ⟨a, cap, h1, h2, h3, h4⟩ := hr
  refine ⟨a, cap, h1, h2, h3, fun hne => ?_⟩
  obtain ⟨b, off, k0, k1, k2⟩ := h4 hne
  exact ⟨b, off, k0, Nat.lt_of_lt_of_le k1 h.size, fun i x hx => (h.cell (p := ⟨b, off + i, none⟩) k1).trans (k2 i x hx)⟩

theorem RowOf.len {α : Type} {W : World} {enc : α → Value} {v : Value} {l : List α} (hr : RowOf W enc v l) : ∃ a cap, v = .slice a l.length cap := by
  obtain ⟨a, cap, h1, _⟩ := hr
  exact ⟨a, cap, h1⟩
theorem RowOf.at_ {α : Type} {W : World} {enc : α → Value} {a : Option Addr} {cap n : Nat} {l : List α} (hr : RowOf W enc (.slice a n cap) l) {i : Nat} {x : α} (hx : l[i]? = some x) : ∃ b off, a = some ⟨b, off, none⟩ ∧ b < W.heap.size ∧ W.cell? ⟨b, off + i, none⟩ = some (enc x) := by
  obtain ⟨a', cap', h1, h2, h3, h4⟩ := hr
  injection h1 with e1 e2 e3
  obtain ⟨b, off, k0, k1, k2⟩ := h4 (fun e => by rw [e] at hx; simp at hx)
  exact ⟨b, off, e1.trans k0, k1, k2 i x hx⟩

theorem row_bools {W : World} {v : Value} {l : List Bool} (h : Reads W (.sl .bool) [v] l) : RowOf W Value.bool v l := by
  obtain ⟨a, cap, h1, h2, h3, h4⟩ := h
  refine ⟨a, cap, (List.cons.inj h1).1, h2, h3, fun hne => ?_⟩
  obtain ⟨b, off, k0, k1, k2⟩ := h4 hne
  refine ⟨b, off, k0, k1, fun i x hx => ?_⟩
  obtain ⟨cs', e1, e2, e3⟩ := k2 i x hx
  obtain rfl : cs' = [.bool x] := e3
  have : W.cell? ⟨b, off + i * 1 + 0, none⟩ = some (.bool x) := e2 0 _ rfl
  rwa [Nat.mul_one, Nat.add_zero] at this
theorem row_ints {q : IntKind} {W : World} {v : Value} {l : List Int} (h : Reads W (.sl (.int q)) [v] l) : RowOf W (Value.int q) v l ∧ ∀ x ∈ l, (Lit.int q x).wf = true := by
  obtain ⟨a, cap, h1, h2, h3, h4⟩ := h
  have each : l ≠ [] → ∃ b off, a = some ⟨b, off, none⟩ ∧ b < W.heap.size ∧ ∀ (i : Nat) x, l[i]? = some x → W.cell? ⟨b, off + i, none⟩ = some (.int q x) ∧ (Lit.int q x).wf = true := by
    intro hne
    obtain ⟨b, off, k0, k1, k2⟩ := h4 hne
    refine ⟨b, off, k0, k1, fun i x hx => ?_⟩
    obtain ⟨cs', e1, e2, e3⟩ := k2 i x hx
    have e4 : cs' = [.int q x] ∧ (Lit.int q x).wf = true := e3
    obtain ⟨rfl, hw⟩ := e4
    have : W.cell? ⟨b, off + i * 1 + 0, none⟩ = some (.int q x) := e2 0 _ rfl
    rw [Nat.mul_one, Nat.add_zero] at this
    exact ⟨this, hw⟩
  refine ⟨⟨a, cap, (List.cons.inj h1).1, h2, h3, fun hne => ?_⟩, fun x hx => ?_⟩
  · obtain ⟨b, off, k0, k1, k2⟩ := each hne
    exact ⟨b, off, k0, k1, fun i x hx => (k2 i x hx).1⟩
  · obtain ⟨i, hi, rfl⟩ := List.mem_iff_getElem.1 hx
    obtain ⟨b, off, k0, k1, k2⟩ := each (List.ne_nil_of_mem hx)
    exact (k2 i _ (List.getElem?_eq_getElem hi)).2
theorem row_strs {W : World} {v : Value} {l : List ByteArray} (h : Reads W (.sl .str) [v] l) : RowOf W Value.string v l ∧ ∀ x ∈ l, x.size ≤ maxLen := by
  obtain ⟨a, cap, h1, h2, h3, h4⟩ := h
  have each : l ≠ [] → ∃ b off, a = some ⟨b, off, none⟩ ∧ b < W.heap.size ∧ ∀ (i : Nat) x, l[i]? = some x → W.cell? ⟨b, off + i, none⟩ = some (.string x) ∧ x.size ≤ maxLen := by
    intro hne
    obtain ⟨b, off, k0, k1, k2⟩ := h4 hne
    refine ⟨b, off, k0, k1, fun i x hx => ?_⟩
    obtain ⟨cs', e1, e2, e3⟩ := k2 i x hx
    have e4 : cs' = [.string x] ∧ x.size ≤ maxLen := e3
    obtain ⟨rfl, hw⟩ := e4
    have : W.cell? ⟨b, off + i * 1 + 0, none⟩ = some (.string x) := e2 0 _ rfl
    rw [Nat.mul_one, Nat.add_zero] at this
    exact ⟨this, hw⟩
  refine ⟨⟨a, cap, (List.cons.inj h1).1, h2, h3, fun hne => ?_⟩, fun x hx => ?_⟩
  · obtain ⟨b, off, k0, k1, k2⟩ := each hne
    exact ⟨b, off, k0, k1, fun i x hx => (k2 i x hx).1⟩
  · obtain ⟨i, hi, rfl⟩ := List.mem_iff_getElem.1 hx
    obtain ⟨b, off, k0, k1, k2⟩ := each (List.ne_nil_of_mem hx)
    exact (k2 i _ (List.getElem?_eq_getElem hi)).2
end Go.Proofs.YtgdlkpfkaehebaaGreatDoor.Rd
