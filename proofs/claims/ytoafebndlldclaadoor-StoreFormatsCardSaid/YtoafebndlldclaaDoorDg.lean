/- The disk's calls for a caller of its own; bytes made and turned; how arguments read; a loop over an iterator that reads what the body writes. -/
import Derived.Test.YtoafebndlldclaaDoorDiskF
import Derived.Test.YtoafebndlldclaaDoorSort
import Derived.BigQuiet
import Derived.ChangeArms
import Derived.DataReads
import Derived.Below
import Derived.RangeFuncNested
import Derived.RangeFuncBound
import Derived.RangeFuncCalls
namespace Go.Proofs.YtoafebndlldclaaDoor.Dk
open Go Go.RowKit Go.ChangeMaps Go.MapKept

/-- in w, behind W, there is a disk of the call's own -/
structure At (W w : World) (b g bm : Nat) (D : DS) : Prop where
  disk : IsDisk w b g bm D
  bel : Below W.heap.size W w
  hb : W.heap.size ≤ b
  hg : W.heap.size ≤ g
  hm : W.heap.size ≤ bm

section
variable {W w w' : World} {b g bm : Nat} {D D' : DS}
theorem At.foot (h : At W w b g bm D) {k : Nat} (hk : Foot b g bm k) : W.heap.size ≤ k := by
  rcases hk with rfl | rfl | rfl
  · exact h.hb
  · exact h.hg
  · exact h.hm
theorem At.step (h : At W w b g bm D) (hi : IsDisk w' b g bm D') (hk : Kp (Foot b g bm) w w') : At W w' b g bm D' :=
  ⟨hi, h.bel.trans (hk.below (fun _ hk => h.foot hk) h.bel.size), h.hb, h.hg, h.hm⟩
theorem At.alloc (h : At W w b g bm D) (o : Obj) : At W (w.alloc o) b g bm D := h.step (h.disk.alloc o) ((Kp.refl _ w).alloc o)
theorem At.drew (h : At W w b g bm D) : At W w.drew b g bm D := h.step h.disk.drew (Kp.refl _ w).drew
theorem At.drewN (h : At W w b g bm D) (n : Nat) : At W (w.drewN n) b g bm D := h.step (h.disk.drewN n) (kp_drewN _ w n)
theorem At.below (h : At W w b g bm D) (k : Below w.heap.size w w') : At W w' b g bm D := h.step (h.disk.below k) (.of_below k)

theorem At.write (h : At W w b g bm D) (i : Int) (s : ByteArray) (hs : s.size ≤ 9223372036854775807) : Calls Tryd.prog 52 #[.pointer (some ⟨b, 0, none⟩), .int .i64 i, .string s] w fun e w' => e = .returned (.int .i64 (Dk.write D i s.data.toList).2) ∧ At W w' b g bm (Dk.write D i s.data.toList).1 ∧ Kp (Foot b g bm) w w' :=
  (write_any h.disk i s hs).mono fun _ _ ⟨he, hi, hk⟩ => ⟨he, h.step hi hk, hk⟩
theorem At.sync (h : At W w b g bm D) : Calls Tryd.prog 53 #[.pointer (some ⟨b, 0, none⟩)] w fun e w' => e = .returned (.int .i64 (Dk.sync D).2) ∧ At W w' b g bm (Dk.sync D).1 ∧ Kp (Foot b g bm) w w' :=
  (sync_any h.disk).mono fun _ _ ⟨he, hi, hk⟩ => ⟨he, h.step hi hk, hk⟩
theorem At.cut (h : At W w b g bm D) : Calls Tryd.prog 26 #[.pointer (some ⟨b, 0, none⟩)] w fun e w' => e = .returned (.tuple #[]) ∧ At W w' b g bm (Dk.cut D) ∧ Kp (Foot b g bm) w w' :=
  (cut_any h.disk).mono fun _ _ ⟨he, hi, hk⟩ => ⟨he, h.step hi hk, hk⟩
theorem At.setFuse (h : At W w b g bm D) (n : Int) (hn : n ≤ 9223372036854775807) : Calls Tryd.prog 38 #[.pointer (some ⟨b, 0, none⟩), .int .i64 n] w fun e w' => e = .returned (.tuple #[]) ∧ At W w' b g bm (Dk.setFuse D n) ∧ Kp (Foot b g bm) w w' :=
  (fuse_any h.disk n hn).mono fun _ _ ⟨he, hi, hk⟩ => ⟨he, h.step hi hk, hk⟩
theorem At.read (h : At W w b g bm D) (i : Int) : Calls Tryd.prog 35 #[.pointer (some ⟨b, 0, none⟩), .int .i64 i] w fun e w' => e = .returned (.tuple #[.string ⟨(Dk.read D i).1.toArray⟩, .int .i64 (Dk.read D i).2]) ∧ At W w' b g bm D ∧ Kp (Foot b g bm) w w' :=
  (read_any h.disk i).mono fun _ _ ⟨he, hk⟩ => ⟨he, h.below hk, .of_below hk⟩
theorem At.on (h : At W w b g bm D) (v : Value) (fates : List Int) (hv : FatesAt b g bm w v fates) : Calls Tryd.prog 40 #[.pointer (some ⟨b, 0, none⟩), v] w fun e w' => e = .returned (.int .i64 (Dk.on D fates).2) ∧ At W w' b g bm (Dk.on D fates).1 ∧ Kp (Foot b g bm) w w' :=
  (on_any sortsInts sortsNone h.disk v fates hv).mono fun _ _ ⟨he, hi, hk⟩ => ⟨he, h.step hi hk, hk⟩
theorem At.dirty (h : At W w b g bm D) : Calls Tryd.prog 37 #[.pointer (some ⟨b, 0, none⟩)] w fun e w' => ∃ v, e = .returned v ∧ w'.ownsRow w.heap.size 3 1 v (Dk.dirty D).length (ints (Dk.dirty D)) ∧ At W w' b g bm D ∧ Kp (Foot b g bm) w w' :=
  (dirty_any sortsInts sortsNone h.disk).mono fun _ _ ⟨v, he, ho, hk⟩ => ⟨v, he, ho, h.below hk, .of_below hk⟩
theorem At.up (h : At W w b g bm D) : Calls Tryd.prog 39 #[.pointer (some ⟨b, 0, none⟩)] w fun e w' => e = .returned (.bool (!D.off)) ∧ w = w' := up_any h.disk
theorem made (n : Nat) (h1 : 1 ≤ n) (h2 : n ≤ 4096) (W w : World) (hb : Below W.heap.size W w) : Calls Tryd.prog 11 #[.int .i64 n] w fun e w' => ∃ b g bm, e = .returned (.pointer (some ⟨b, 0, none⟩)) ∧ At W w' b g bm (new n) ∧ Below w.heap.size w w' ∧ w.heap.size ≤ b ∧ w.heap.size ≤ g ∧ w.heap.size ≤ bm :=
  (new_some n h1 h2 w).mono fun _ _ ⟨he, hi, hk⟩ => ⟨_, _, _, he, ⟨hi, hb.trans (hk.mono hb.size), by have := hb.size; omega, hb.size, by have := hb.size; omega⟩, hk, by omega, by omega, by omega⟩

/-- fates in a new block -/
theorem fates_one (h : At W w b g bm D) (f : Int) (h1 : -9223372036854775808 ≤ f ∧ f ≤ 9223372036854775807) : FatesAt b g bm (w.alloc (.cells #[.int .i64 f] 3)) (.slice (some ⟨w.heap.size, 0, none⟩) 1 1) [f] :=
  ⟨_, 1, rfl, by simp, by simp, fun x hx => by simp at hx; subst hx; exact h1, fun _ => ⟨w.heap.size, 0, rfl, by simp, fun hf => by have := h.disk.lt hf; omega, fun j x hj => by
    match j, hj with
    | 0, hj => simp at hj; subst hj; simp⟩⟩
theorem fates_nil (W : World) : FatesAt b g bm W (.slice none 0 0) [] := ⟨none, 0, rfl, by simp, by simp, by simp, fun h => absurd rfl h⟩
end

end Go.Proofs.YtoafebndlldclaaDoor.Dk

namespace Go.Proofs.YtoafebndlldclaaDoor.Dk
open Go Go.RowKit Go.ChangeMaps Go.MapKept

theorem made_bytes (n : Nat) : madeCells (Value.int .u8 0).cells (n * 1) = (Lib.byteCells (zeros n)).toArray := by
  apply Array.ext_getElem?
  intro j
  by_cases hj : j < n
  · rw [show (Lib.byteCells (zeros n)).toArray[j]? = some (.int .u8 0) from by rw [List.getElem?_toArray, zeros_cells _ _ hj]]
    unfold madeCells
    rw [Array.getElem?_map, Array.getElem?_range, if_pos (by omega)]
    simp [Value.cells, Nat.mod_one]
  · rw [Array.getElem?_eq_none (by simp [size_madeCells]; omega), Array.getElem?_eq_none (by simp [Lib.byteCells, zeros]; omega)]

section
variable {P : Program} {w : World} {ops : Array Oper} {rest : List Oper} {o : Oper} {a : Act} {Q : Exit → Act → World → Prop}
/-- 'make([]byte, n)' -/
theorem wpList_make_bytes (hg : o.guard = none) (l c : Operand) (t e : TypeId) (hop : o.op = Op.makeSlice t l c) (ht : P.underlying t = some (.slice e)) (hi : (P.info? e).map (fun i => (i.zero, i.size, i.bytes)) = some (some (.int .u8 0), 1, 1))
    (n : Nat) (x : Int) (hx : x = n) (hl : a.eval l = .int .i64 x) (hc : a.eval c = .int .i64 x) (hn : n ≤ 281474976710656)
    (h : wpList P ops Q rest (a.put o.dst (.slice (some ⟨w.heap.size, 0, none⟩) n n)) (w.alloc (.cells (Lib.byteCells (zeros n)).toArray e))) : wpList P ops Q (o :: rest) a w := by
  subst hx
  refine wpList_make_exact hg l c t e hop (.int .u8 0) 1 1 ht hi n hl hc (by omega) (by omega) ?_
  rw [made_bytes]
  exact h

/-- 'string(b)', b a row of the call's own that was laid last -/
theorem wpList_conv_new (hg : o.guard = none) (src dst e : TypeId) (x : Operand) (hop : o.op = Op.convert src dst x) (hs : P.underlying src = some (.slice e)) (he : P.underlying e = some (.int .u8)) (hd : P.underlying dst = some .string)
    (v : World) (l : Bs) (t : TypeId) (hw : w = v.alloc (.cells (Lib.byteCells l).toArray t)) (n m cap : Nat) (hn : n = v.heap.size) (hm : m = l.length) (hx : a.eval x = .slice (some ⟨n, 0, none⟩) m cap) (z : ByteArray) (hz : z = ⟨l.toArray⟩)
    (h : wpList P ops Q rest (a.put o.dst (.string z)) w) : wpList P ops Q (o :: rest) a w := by
  subst hn hm hz
  refine wpList_plain hg fun K hK => ?_
  have hrun : (convert src dst (.slice (some ⟨v.heap.size, 0, none⟩) l.length cap)).run P w = .ok (.string ⟨l.toArray⟩) w := by
    refine run_convert_bytes_back _ src dst e ⟨v.heap.size, 0, none⟩ cap l hs he hd (fun j hj => ?_)
    rw [show (⟨v.heap.size, 0, none⟩ : Addr).add j = ⟨v.heap.size, j, none⟩ from by unfold Addr.add; split <;> simp_all, hw, World.cell?_alloc_at _ _ _ _ rfl, List.getElem?_toArray]
    simp [Lib.byteCells, List.getElem?_eq_getElem hj]
  unfold Oper.wp
  simp [execOp, hop, hx, hrun, Result.andThen]
  exact hK _ _ h
end

theorem zeros_text (n : Nat) : ∃ z : ByteArray, z = ⟨(zeros n).toArray⟩ ∧ z.size = n := ⟨_, rfl, by simp [ByteArray.size, zeros]⟩

theorem u8_info : (Tryd.prog.info? 5).map (fun i => (i.zero, i.size, i.bytes)) = some (some (.int .u8 0), 1, 1) := by kernel_rfl

theorem write_free {olds : List Bs} {news : List (Option Bs)} {i : Nat} {s : Bs} (hi : i < olds.length) (hs : s.length ≤ 64) : write ⟨olds, news, 0, false⟩ i s = (⟨olds, news.set i (some (pad s)), 0, false⟩, 0) := by
  unfold write
  rw [within_some rfl (by omega) (by show (i : Int) < (olds.length : Int); omega)]
  rw [if_neg (by decide), if_neg (by omega)]
  simp [burn, put]
theorem write_dead {olds : List Bs} {news : List (Option Bs)} {f : Nat} (i : Int) (s : Bs) : write ⟨olds, news, f, true⟩ i s = (⟨olds, news, f, true⟩, 180) := by
  unfold write
  rw [within_off rfl]
  rfl
theorem sync_free {olds : List Bs} {news : List (Option Bs)} : sync ⟨olds, news, 0, false⟩ = (settle ⟨olds, news, 0, false⟩, 0) := by
  simp [sync, burn]
theorem sync_dead {olds : List Bs} {news : List (Option Bs)} {f : Nat} : sync ⟨olds, news, f, true⟩ = (⟨olds, news, f, true⟩, 180) := by
  simp [sync]
end Go.Proofs.YtoafebndlldclaaDoor.Dk

namespace Go.Proofs.YtoafebndlldclaaDoor.Rd
open Go Go.RowKit

/-- the shapes; a struct is its fields, one behind the other, and 'fin' -/
inductive Ty where
  | int (q : IntKind)
  | bool
  | str
  | sl (e : Ty)
  | fld (a r : Ty)
  | fin

def Ty.den : Ty → Type
  | .int _ => Int
  | .bool => Bool
  | .str => ByteArray
  | .sl e => List e.den
  | .fld a r => a.den × r.den
  | .fin => Unit
def Ty.size : Ty → Nat
  | .int _ => 1
  | .bool => 1
  | .str => 1
  | .sl _ => 1
  | .fld a r => a.size + r.size
  | .fin => 0

/-- in world W the cells cs read as v -/
def Reads (W : World) : (t : Ty) → List Value → t.den → Prop
  | .int q, cs, (x : Int) => cs = [.int q x] ∧ (Lit.int q x).wf = true
  | .bool, cs, (x : Bool) => cs = [.bool x]
  | .str, cs, (s : ByteArray) => cs = [.string s] ∧ s.size ≤ maxLen
  | .sl e, cs, (l : List e.den) => ∃ a cap, cs = [.slice a l.length cap] ∧ l.length ≤ cap ∧ cap ≤ maxLen ∧ (l ≠ [] → ∃ b off, a = some ⟨b, off, none⟩ ∧ b < W.heap.size ∧
      ∀ i x, l[i]? = some x → ∃ cs', cs'.length = e.size ∧ (∀ j u, cs'[j]? = some u → W.cell? ⟨b, off + i * e.size + j, none⟩ = some u) ∧ Reads W e cs' x)
  | .fld a r, cs, (x, y) => Reads W a (cs.take a.size) x ∧ Reads W r (cs.drop a.size) y
  | .fin, _, _ => True

theorem Reads.kept {W W' : World} (h : Below W.heap.size W W') : ∀ (t : Ty) (cs : List Value) (v : t.den), Reads W t cs v → Reads W' t cs v := by
  intro t
  induction t with
  | int q => intro cs v hv; exact hv
  | bool => intro cs v hv; exact hv
  | str => intro cs v hv; exact hv
  | fin => intro cs v hv; exact hv
  | fld a r iha ihr => intro cs v hv; exact ⟨iha _ _ hv.1, ihr _ _ hv.2⟩
  | sl e ih =>
    intro cs v hv
    obtain ⟨a, cap, h1, h2, h3, h4⟩ := hv
    refine ⟨a, cap, h1, h2, h3, fun hne => ?_⟩
    obtain ⟨b, off, k0, k1, k2⟩ := h4 hne
    refine ⟨b, off, k0, Nat.lt_of_lt_of_le k1 h.size, fun i x hx => ?_⟩
    obtain ⟨cs', k3, k4, k5⟩ := k2 i x hx
    exact ⟨cs', k3, fun j u hj => (h.cell (p := ⟨b, off + i * e.size + j, none⟩) k1).trans (k4 j u hj), ih _ _ k5⟩

/-- type T of the program has this shape; the fields from an offset on have it -/
def Sh (P : Program) : Ty → (TypeId → Prop) × (List Field → Nat → Prop)
  | .int q => (fun T => P.underlying T = some (.int q), fun _ _ => False)
  | .bool => (fun T => P.underlying T = some .bool, fun _ _ => False)
  | .str => (fun T => P.underlying T = some .string, fun _ _ => False)
  | .sl e => (fun T => ∃ E, P.underlying T = some (.slice E) ∧ P.cellsOf E = e.size ∧ 0 < e.size ∧ (Sh P e).1 E, fun _ _ => False)
  | .fld a r => (fun T => ∃ f fs, P.underlying T = some (.struct (f :: fs).toArray) ∧ P.cellsOf T = a.size + r.size ∧ f.offset = 0 ∧ P.cellsOf f.type = a.size ∧ (Sh P a).1 f.type ∧ (Sh P r).2 fs a.size,
      fun l off => ∃ f fs, l = f :: fs ∧ f.offset = off ∧ P.cellsOf f.type = a.size ∧ (Sh P a).1 f.type ∧ (Sh P r).2 fs (off + a.size))
  | .fin => (fun T => P.underlying T = some (.struct #[]), fun l _ => l = [])

section
variable {H : Type} {enc : TypeId × Value → H} {P : Program} {W : World} {base : Nat} {spare : Nat → Bool} {held : Bool}

theorem reads_of : ∀ (t : Ty), (∀ T, (Sh P t).1 T → ∀ (fuel : Nat) (cs : List Value) x, DataW.trod enc P W base spare held fuel T cs = some x → ∃ v, Reads W t cs v) ∧
    (∀ fs off, (Sh P t).2 fs off → ∀ (n : Nat) (cs : List Value), cs.length = off + t.size → (∀ (i : Nat) (f : Field), fs[i]? = some f → ∃ y, DataW.trod enc P W base spare held n f.type ((cs.drop f.offset).take (P.cellsOf f.type)) = some y) → ∃ v, Reads W t (cs.drop off) v) := by
  intro t
  induction t with
  | int q =>
    refine ⟨fun T hT fuel cs x h => ?_, fun _ _ h => h.elim⟩
    obtain ⟨n, rfl, _, hw⟩ := DataW.trod_int hT h
    exact ⟨n, rfl, hw⟩
  | bool =>
    refine ⟨fun T hT fuel cs x h => ?_, fun _ _ h => h.elim⟩
    obtain ⟨n, rfl, _⟩ := DataW.trod_bool hT h
    exact ⟨n, rfl⟩
  | str =>
    refine ⟨fun T hT fuel cs x h => ?_, fun _ _ h => h.elim⟩
    obtain ⟨n, rfl, _, hw⟩ := DataW.trod_string hT h
    exact ⟨n, rfl, hw⟩
  | fin => exact ⟨fun T hT fuel cs x h => ⟨(), trivial⟩, fun fs off h n cs hl hf => ⟨(), trivial⟩⟩
  | sl e ih =>
    refine ⟨fun T hT fuel cs x h => ?_, fun _ _ h => h.elim⟩
    obtain ⟨E, hu, hE, hpos, hsh⟩ := hT
    rcases DataW.trod_slice hu h with ⟨rfl, _⟩ | ⟨a, len, cap, elems, rest, n, _, rfl, _, hb, hl, hm, hlen, hel, _, _⟩
    · exact ⟨[], none, 0, rfl, Nat.le_refl _, by decide, fun h => absurd rfl h⟩
    · by_cases h0 : len = 0
      · subst h0
        exact ⟨[], some a, cap, rfl, hl, hm, fun h => absurd rfl h⟩
      · have raw : ∀ i, i < len → ∃ cs', cs'.length = e.size ∧ (∀ j, j < e.size → W.cell? ((a.add (i * e.size)).add j) = cs'[j]?) ∧ ∃ v, Reads W e cs' v := by
          intro i hi
          have h1 := hel i hi
          rw [show elems[i]? = some elems[i] from List.getElem?_eq_getElem (by omega)] at h1
          obtain ⟨cs', h2, h3⟩ := Option.bind_eq_some_iff.1 h1
          obtain ⟨_, h4, h5⟩ := World.cells?_some h2
          rw [hE] at h4 h5
          exact ⟨cs', h4, h5, ih.1 E hsh n cs' _ h3⟩
        obtain ⟨c0, k1, k2, _⟩ := raw 0 (by omega)
        have hc := k2 0 hpos
        rw [show (a.add (0 * e.size)).add 0 = a from by simp [Addr.add], List.getElem?_eq_getElem (by omega)] at hc
        have hlt := World.block_lt_of_cell? _ _ hc
        have hsp : a = ⟨a.block, a.off, none⟩ := by
          obtain ⟨ab, ao, asp⟩ := a
          cases asp with
          | none => rfl
          | some s => unfold World.cell? at hc; simp at hc; split at hc <;> cases hc
        have each : ∀ i, ∃ v, i < len → ∃ cs', cs'.length = e.size ∧ (∀ j u, cs'[j]? = some u → W.cell? ⟨a.block, a.off + i * e.size + j, none⟩ = some u) ∧ Reads W e cs' v := by
          intro i
          by_cases hi : i < len
          · obtain ⟨cs', k1, k2, v, k3⟩ := raw i hi
            refine ⟨v, fun _ => ⟨cs', k1, fun j u hj => ?_, k3⟩⟩
            have hjl : j < e.size := by rw [← k1]; exact (List.getElem?_eq_some_iff.1 hj).1
            have := k2 j hjl
            rw [hj] at this
            rw [← this, hsp]
            congr 1
            unfold Addr.add
            by_cases j0 : j = 0
            · subst j0
              by_cases z : i * e.size = 0 <;> simp [z]
            · by_cases z : i * e.size = 0 <;> simp [z, j0]
          · obtain ⟨cs', k1, k2, v, k3⟩ := raw 0 (by omega)
            exact ⟨v, fun h => absurd h hi⟩
        obtain ⟨f, hf⟩ : ∃ f : Nat → e.den, ∀ i, i < len → ∃ cs', cs'.length = e.size ∧ (∀ j u, cs'[j]? = some u → W.cell? ⟨a.block, a.off + i * e.size + j, none⟩ = some u) ∧ Reads W e cs' (f i) :=
          ⟨fun i => (each i).choose, fun i => (each i).choose_spec⟩
        have hll : ((List.range len).map f).length = len := by simp
        refine ⟨(List.range len).map f, some a, cap, by rw [hll], by rw [hll]; exact hl, hm, fun _ => ⟨a.block, a.off, by rw [← hsp], hlt, fun i x hx => ?_⟩⟩
        have hi : i < len := by rw [← hll]; exact (List.getElem?_eq_some_iff.1 hx).1
        simp only [List.getElem?_map, List.getElem?_range hi, Option.map_some, Option.some.injEq] at hx
        rw [← hx]
        exact hf i hi
  | fld a r iha ihr =>
    have rest : ∀ (f : Field) (fs : List Field) (off : Nat), f.offset = off → P.cellsOf f.type = a.size → (Sh P a).1 f.type → (Sh P r).2 fs (off + a.size) → ∀ (n : Nat) (cs : List Value), cs.length = off + (a.size + r.size) →
        (∀ (i : Nat) (f' : Field), (f :: fs)[i]? = some f' → ∃ y, DataW.trod enc P W base spare held n f'.type ((cs.drop f'.offset).take (P.cellsOf f'.type)) = some y) → ∃ v, Reads W (.fld a r) (cs.drop off) v := by
      intro f fs off h1 h2 h3 h4 n cs hl hf
      obtain ⟨y, hy⟩ := hf 0 f rfl
      rw [h1, h2] at hy
      obtain ⟨v, hv⟩ := iha.1 f.type h3 n _ y hy
      obtain ⟨u, hu⟩ := ihr.2 fs (off + a.size) h4 n cs (by omega) (fun i f' hf' => hf (i + 1) f' (by simpa using hf'))
      exact ⟨(v, u), hv, by rw [List.drop_drop]; exact hu⟩
    refine ⟨fun T hT fuel cs x h => ?_, fun l off hT n cs hl hf => ?_⟩
    · obtain ⟨f, fs, hu, hc, h1, h2, h3, h4⟩ := hT
      obtain ⟨xs, n, _, _, hcl, hxl, hxs⟩ := DataW.trod_struct hu h
      have := rest f fs 0 h1 h2 h3 (by rw [Nat.zero_add]; exact h4) n cs (by rw [hcl, hc]; omega) (fun i f' hf' => ?_)
      · rw [List.drop_zero] at this; exact this
      · have h5 := hxs i f' (by simpa using hf')
        have hi : i < xs.length := by rw [hxl]; simpa using (List.getElem?_eq_some_iff.1 hf').1
        exact ⟨xs[i], by rw [h5, List.getElem?_eq_getElem hi]⟩
    · obtain ⟨f, fs, rfl, h1, h2, h3, h4⟩ := hT
      exact rest f fs off h1 h2 h3 h4 n cs hl hf

/-- a slice among the arguments -/
theorem reads_arg {t : Ty} {T : TypeId} (hT : (Sh P t).1 T) {v : Value} {d : DataW H} {p : List MemPlace} (h : DataW.Trod enc P W base spare held T v d p) : ∃ x, Reads W t v.cells.toList x := by
  obtain ⟨fuel, hf⟩ := h
  exact (reads_of t).1 T hT fuel _ _ hf
end

/-- a slice whose elements are one cell each -/
def RowOf {α : Type} (W : World) (enc : α → Value) (v : Value) (l : List α) : Prop := ∃ a cap, v = .slice a l.length cap ∧ l.length ≤ cap ∧ cap ≤ maxLen ∧ (l ≠ [] → ∃ b off, a = some ⟨b, off, none⟩ ∧ b < W.heap.size ∧ ∀ (i : Nat) x, l[i]? = some x → W.cell? ⟨b, off + i, none⟩ = some (enc x))

theorem RowOf.kept {α : Type} {W W' : World} {enc : α → Value} {v : Value} {l : List α} (h : Below W.heap.size W W') (hr : RowOf W enc v l) : RowOf W' enc v l := by
  obtain ⟨a, cap, h1, h2, h3, h4⟩ := hr
  refine ⟨a, cap, h1, h2, h3, fun hne => ?_⟩
  obtain ⟨b, off, k0, k1, k2⟩ := h4 hne
  exact ⟨b, off, k0, Nat.lt_of_lt_of_le k1 h.size, fun i x hx => (h.cell (p := ⟨b, off + i, none⟩) k1).trans (k2 i x hx)⟩

theorem RowOf.len {α : Type} {W : World} {enc : α → Value} {v : Value} {l : List α} (hr : RowOf W enc v l) : ∃ a cap, v = .slice a l.length cap := by
  obtain ⟨a, cap, h1, _⟩ := hr
  exact ⟨a, cap, h1⟩
theorem RowOf.at_ {α : Type} {W : World} {enc : α → Value} {a : Option Addr} {cap n : Nat} {l : List α} (hr : RowOf W enc (.slice a n cap) l) {i : Nat} {x : α} (hx : l[i]? = some x) : ∃ b off, a = some ⟨b, off, none⟩ ∧ b < W.heap.size ∧ W.cell? ⟨b, off + i, none⟩ = some (enc x) := by
  obtain ⟨a', cap', h1, h2, h3, h4⟩ := hr
  injection h1 with e1 e2 e3
  obtain ⟨b, off, k0, k1, k2⟩ := h4 (fun e => by rw [e] at hx; simp at hx)
  exact ⟨b, off, e1.trans k0, k1, k2 i x hx⟩

theorem row_bools {W : World} {v : Value} {l : List Bool} (h : Reads W (.sl .bool) [v] l) : RowOf W Value.bool v l := by
  obtain ⟨a, cap, h1, h2, h3, h4⟩ := h
  refine ⟨a, cap, (List.cons.inj h1).1, h2, h3, fun hne => ?_⟩
  obtain ⟨b, off, k0, k1, k2⟩ := h4 hne
  refine ⟨b, off, k0, k1, fun i x hx => ?_⟩
  obtain ⟨cs', e1, e2, e3⟩ := k2 i x hx
  obtain rfl : cs' = [.bool x] := e3
  have : W.cell? ⟨b, off + i * 1 + 0, none⟩ = some (.bool x) := e2 0 _ rfl
  rwa [Nat.mul_one, Nat.add_zero] at this
theorem row_ints {q : IntKind} {W : World} {v : Value} {l : List Int} (h : Reads W (.sl (.int q)) [v] l) : RowOf W (Value.int q) v l ∧ ∀ x ∈ l, (Lit.int q x).wf = true := by
  obtain ⟨a, cap, h1, h2, h3, h4⟩ := h
  have each : l ≠ [] → ∃ b off, a = some ⟨b, off, none⟩ ∧ b < W.heap.size ∧ ∀ (i : Nat) x, l[i]? = some x → W.cell? ⟨b, off + i, none⟩ = some (.int q x) ∧ (Lit.int q x).wf = true := by
    intro hne
    obtain ⟨b, off, k0, k1, k2⟩ := h4 hne
    refine ⟨b, off, k0, k1, fun i x hx => ?_⟩
    obtain ⟨cs', e1, e2, e3⟩ := k2 i x hx
    have e4 : cs' = [.int q x] ∧ (Lit.int q x).wf = true := e3
    obtain ⟨rfl, hw⟩ := e4
    have : W.cell? ⟨b, off + i * 1 + 0, none⟩ = some (.int q x) := e2 0 _ rfl
    rw [Nat.mul_one, Nat.add_zero] at this
    exact ⟨this, hw⟩
  refine ⟨⟨a, cap, (List.cons.inj h1).1, h2, h3, fun hne => ?_⟩, fun x hx => ?_⟩
  · obtain ⟨b, off, k0, k1, k2⟩ := each hne
    exact ⟨b, off, k0, k1, fun i x hx => (k2 i x hx).1⟩
  · obtain ⟨i, hi, rfl⟩ := List.mem_iff_getElem.1 hx
    obtain ⟨b, off, k0, k1, k2⟩ := each (List.ne_nil_of_mem hx)
    exact (k2 i _ (List.getElem?_eq_getElem hi)).2
theorem row_strs {W : World} {v : Value} {l : List ByteArray} (h : Reads W (.sl .str) [v] l) : RowOf W Value.string v l ∧ ∀ x ∈ l, x.size ≤ maxLen := by
  obtain ⟨a, cap, h1, h2, h3, h4⟩ := h
  have each : l ≠ [] → ∃ b off, a = some ⟨b, off, none⟩ ∧ b < W.heap.size ∧ ∀ (i : Nat) x, l[i]? = some x → W.cell? ⟨b, off + i, none⟩ = some (.string x) ∧ x.size ≤ maxLen := by
    intro hne
    obtain ⟨b, off, k0, k1, k2⟩ := h4 hne
    refine ⟨b, off, k0, k1, fun i x hx => ?_⟩
    obtain ⟨cs', e1, e2, e3⟩ := k2 i x hx
    have e4 : cs' = [.string x] ∧ x.size ≤ maxLen := e3
    obtain ⟨rfl, hw⟩ := e4
    have : W.cell? ⟨b, off + i * 1 + 0, none⟩ = some (.string x) := e2 0 _ rfl
    rw [Nat.mul_one, Nat.add_zero] at this
    exact ⟨this, hw⟩
  refine ⟨⟨a, cap, (List.cons.inj h1).1, h2, h3, fun hne => ?_⟩, fun x hx => ?_⟩
  · obtain ⟨b, off, k0, k1, k2⟩ := each hne
    exact ⟨b, off, k0, k1, fun i x hx => (k2 i x hx).1⟩
  · obtain ⟨i, hi, rfl⟩ := List.mem_iff_getElem.1 hx
    obtain ⟨b, off, k0, k1, k2⟩ := each (List.ne_nil_of_mem hx)
    exact (k2 i _ (List.getElem?_eq_getElem hi)).2
end Go.Proofs.YtoafebndlldclaaDoor.Rd

namespace Go.Proofs.YtoafebndlldclaaDoor.Sn
open Go Go.RowKit
variable {F : Fence} {n : Nat} {P : Program}

/-- an iterator's word to a loop whose body may write what the iterator reads: each element comes with Y -/
def SeqSeen {α : Type} (F : Fence) (n : Nat) (P : Program) (g : Nat) (lb : Array Value) (encs : α → Array Value) (Kp : World → World → Prop) (Y : List α → α → World → Prop) (S Sp : List α → World → Prop) (N : Nat) (w : World) : Prop :=
  ∀ (l : Nat) (J Jx : List α → World → Prop) (W : World), Below w.heap.size w W → AbidesFrom W.heap.size J → AbidesFrom W.heap.size Jx →
    (∀ pre x W1, J pre W1 → pre.length < N → Y pre x W1 → YieldAt F (n - 1) P l (encs x) W1 fun e W' =>
      (e = .returned (.bool true) ∧ J (pre ++ [x]) W' ∧ Kp W1 W') ∨ (e = .returned (.bool false) ∧ Jx (pre ++ [x]) W')) →
    J [] W →
    CallsIn F n P g (#[.func (.yield l) #[] #[]] ++ lb) W fun e W' => (∃ v, e = .returned v) ∧ ((∃ xs, S xs W' ∧ J xs W') ∨ (∃ pre, Sp pre W' ∧ Jx pre W'))

theorem wpIn_rangeFunc_seen {α : Type} {g : Operand} {ps : Array Tmp} {assign body : Code} {Q : Exit → Act → World → Prop} {a : Act} {w : World}
    (hro : F.round = none) (h1 : 1 ≤ n) {gf : Nat} {lb : Array Value} (hg : a.eval g = .func (.func gf) #[] lb) (hFg : F.fn gf) (eg : ∀ args w, (callFunc gf args).run P w = .ok (.enter gf args) w)
    {encs : α → Array Value} {Kp : World → World → Prop} {Y : List α → α → World → Prop} {S Sp : List α → World → Prop} {N : Nat} {w0 : World} (hseq : SeqSeen F (n - 1) P gf lb encs Kp Y S Sp N w0)
    (hKt : ∀ {A B C : World}, Kp A B → Kp B C → Kp A C) (hKb : ∀ (W : World) (l : Nat) (o o' : Obj), w.heap.size ≤ l → W.heap[l]? = some o → o.isCells = false → o.isWalk = false → Kp W (W.putObj l o')) (hb0 : Below w0.heap.size w0 w) (hps : ∀ x, (encs x).size = ps.size)
    (I : List α → World → Prop) (Ix : Code → List α → World → Prop) (hI : OwnFrom w.heap.size I) (hIx : ∀ c, OwnFrom w.heap.size (Ix c)) (h0 : I [] w) (Ax : List α → α → Act → World → Prop) (hAx : ∀ pre x a', OwnFrom w.heap.size (fun (_ : Unit) W => Ax pre x a' W))
    (hS : OwnFrom w.heap.size S) (hSp : OwnFrom w.heap.size Sp)
    (hassign : ∀ (l : Nat) (pre : List α) (x : α) (W : World) (K : Act → World → Prop), I pre W → Y pre x W → (∀ a' W', KeepsFrom w.heap.size W W' → Kp W W' → I pre W' → Ax pre x a' W' → K a' W') →
      assign.wpIn (F.inRound l) (n - 1 - 1) P (Exit.then K (fun _ _ _ => False)) { tmps := (ps.zip (encs x)).foldl (fun t (p, v) => t.setIfInBounds p v) a.tmps, defers := [] } W)
    (hbody : ∀ (l : Nat) (pre : List α) (x : α) (a' : Act) (W : World), w.heap.size ≤ l → (∃ r, W.heap[l]? = some (.loop r)) → I pre W → Ax pre x a' W → pre.length < N → body.wpIn (F.inRound l) (n - 1 - 1) P (ownPostG w.heap.size Kp I Ix (pre ++ [x]) W) a' W)
    (hdone : ∀ (D : Nat) (xs : List α) (W : World), w.heap.size ≤ D → S xs W → I xs W → W.heap[D]? = some (.deferred (some [])) → Q .normal { a with defers := { target := .collected D, args := #[] } :: a.defers } W)
    (hstop : ∀ (D : Nat) (c : Code) (pre : List α) (W : World), w.heap.size ≤ D → Sp pre W → Ix c pre W → W.heap[D]? = some (.deferred (some [])) → c.wpIn F n P Q { a with defers := { target := .collected D, args := #[] } :: a.defers } W) :
    (Code.rangeFunc g ps assign body).wpIn F n P Q a w := by
  refine wpIn_rangeFunc ?_
  intro fn hfn
  rw [hro]
  -- the loop's record, at block L, and the block of the rounds' deferred calls, at block B
  let rc : LoopState → Option Code → Loop := fun st pe => { state := st, pending := pe, fn, tmps := a.tmps, params := ps, assign, body, defers := w.heap.size }
  obtain ⟨U, hU⟩ : ∃ U, U = (w.alloc (.deferred (some []))).alloc (.loop (rc .ready none)) := ⟨_, rfl⟩
  have uL : U.heap[w.heap.size + 1]? = some (.loop (rc .ready none)) := by
    have := World.alloc_heap_new (w.alloc (.deferred (some []))) (.loop (rc .ready none))
    rwa [World.size_alloc, ← hU] at this
  have uB : U.heap[w.heap.size]? = some (.deferred (some [])) := by
    rw [hU]; exact (Below.heap_alloc _ _ _ (by simp)).trans (World.alloc_heap_new w _)
  have uI : I [] U := by rw [hU]; exact hI.alloc _ (hI.alloc _ h0)
  have ub : Below w0.heap.size w0 U := by
    rw [hU]; exact hb0.trans ((((Below.refl _ w).alloc (Nat.le_refl _) _).alloc (by simp) _).mono hb0.size)
  have us : U.heap.size = w.heap.size + 2 := by rw [hU]; simp
  have walk : ∀ {A : World} {row : Option Nat}, (∀ r, row = some r → U.heap.size ≤ r ∧ ∃ o : Obj, A.heap[r]? = some o ∧ o.isWalk = true) → (∀ r, row = some r → w.heap.size ≤ r ∧ ∃ o : Obj, A.heap[r]? = some o ∧ o.isCells = false) := by
    intro A row hr r e
    obtain ⟨h2, o, ho, hw⟩ := hr r e
    exact ⟨by omega, o, ho, Obj.not_cells_of_walk hw⟩
  refine ⟨w.heap.size + 1, [{ target := .collected w.heap.size, args := #[] }], U, { target := .fn (.func gf) lb, args := #[.func (.yield (w.heap.size + 1)) #[] #[]] }, U, gf,
    #[.func (.yield (w.heap.size + 1)) #[] #[]] ++ lb, U, by rw [hU]; exact run_enterLoop_outer _ _ _ _ _, ?_, ?_, by simp [invoke, go_sem, eg], fun _ => h1, ?_⟩
  · simp only [resolve, hg]
    simp [go_sem]
  · intro f' hf'
    simp [Target.leads] at hf'
    subst hf'
    exact hFg
  · refine (hseq (w.heap.size + 1) (fun pre W => (I pre W ∧ W.heap[w.heap.size + 1]? = some (.loop (rc .ready none))) ∧ W.heap[w.heap.size]? = some (.deferred (some [])))
      (fun pre W => ∃ c, (Ix c pre W ∧ W.heap[w.heap.size + 1]? = some (.loop (rc .done (some c)))) ∧ W.heap[w.heap.size]? = some (.deferred (some []))) U ub ?_ ?_ ?_ ⟨⟨uI, uL⟩, uB⟩).mono ?_
    · rintro s A A' row ⟨⟨k1, k2⟩, k3⟩ hgr hr
      exact ⟨⟨hI s A A' row k1 hgr (walk hr), (grownBy_keeps hgr (fun r e => (hr r e).2) k2 rfl).trans k2⟩, (grownBy_keeps hgr (fun r e => (hr r e).2) k3 rfl).trans k3⟩
    · rintro s A A' row ⟨c, ⟨k1, k2⟩, k3⟩ hgr hr
      exact ⟨c, ⟨hIx c s A A' row k1 hgr (walk hr), (grownBy_keeps hgr (fun r e => (hr r e).2) k2 rfl).trans k2⟩, (grownBy_keeps hgr (fun r e => (hr r e).2) k3 rfl).trans k3⟩
    · rintro pre x V ⟨⟨vi, vl⟩, vk⟩ hlen hy
      have run := run_yield (P := P) (args := encs x) vl (hps x)
      refine ⟨fn, _, assign, body, run, roundIn_of_wpIn hfn (hassign _ pre x V _ vi hy ?_)⟩
      intro a' V2 ka kp vi2 ax
      have l2 := ka.same _ _ (by omega) vl rfl
      have d2 := ka.same _ _ (Nat.le_refl _) vk rfl
      have lt2 : w.heap.size + 1 < V2.heap.size := (Array.getElem?_eq_some_iff.1 l2).1
      refine ⟨_, run_beginRound l2 rfl, ?_⟩
      obtain ⟨V3, hV3⟩ : ∃ V3, V3 = V2.putObj (w.heap.size + 1) (.loop { rc .ready none with state := .busy }) := ⟨_, rfl⟩
      have l3 : V3.heap[w.heap.size + 1]? = some (.loop { rc .ready none with state := .busy }) := by rw [hV3]; exact World.putObj_heap_same lt2
      have d3 : V3.heap[w.heap.size]? = some (.deferred (some [])) := by rw [hV3]; exact (World.putObj_heap_other (by omega)).trans d2
      have kp3 : Kp V2 V3 := by rw [hV3]; exact hKb _ _ _ _ (by omega) l2 rfl rfl
      have i3 : I pre V3 := by rw [hV3]; exact hI.putObj _ vi2 (by omega) l2 rfl
      have a3 : Ax pre x a' V3 := by rw [hV3]; exact (hAx pre x a').putObj (s := ()) _ ax (by omega) l2 rfl
      have close : ∀ (jump : Option Code) (V4 : World), KeepsFrom w.heap.size V3 V4 →
          (Instr.endRound (w.heap.size + 1) jump).run P V4 = .ok (.bool jump.isNone) (V4.putObj (w.heap.size + 1) (.loop (rc (if jump.isNone then .ready else .done) jump))) ∧
          V4.heap[w.heap.size + 1]? = some (.loop { rc .ready none with state := .busy }) ∧
          (V4.putObj (w.heap.size + 1) (.loop (rc (if jump.isNone then .ready else .done) jump))).heap[w.heap.size + 1]? = some (.loop (rc (if jump.isNone then .ready else .done) jump)) ∧
          (V4.putObj (w.heap.size + 1) (.loop (rc (if jump.isNone then .ready else .done) jump))).heap[w.heap.size]? = some (.deferred (some [])) := by
        intro jump V4 k4
        have l4 := k4.same _ _ (by omega) l3 rfl
        exact ⟨run_endRound (P := P) jump l4, l4, World.putObj_heap_same (Array.getElem?_eq_some_iff.1 l4).1, (World.putObj_heap_other (by omega)).trans (k4.same _ _ (Nat.le_refl _) d3 rfl)⟩
      rw [← hV3]
      refine wpIn_mono (hbody _ pre x a' V3 (by omega) ⟨_, l3⟩ i3 a3 hlen) ?_
      rintro e a4 V4 hp
      cases e with
      | normal =>
        obtain ⟨k4, kp4, i4⟩ := hp
        obtain ⟨r1, r2, r3, r4⟩ := close none V4 k4
        exact ⟨_, _, r1, .inl ⟨rfl, ⟨⟨hI.putObj _ i4 (by omega) r2 rfl, r3⟩, r4⟩, hKt kp (hKt (hKt kp3 kp4) (hKb _ _ _ _ (by omega) r2 rfl rfl))⟩⟩
      | ret =>
        obtain ⟨k4, i4⟩ := hp
        obtain ⟨r1, r2, r3, r4⟩ := close (some .ret) V4 k4
        exact ⟨_, _, r1, .inr ⟨rfl, .ret, ⟨(hIx _).putObj _ i4 (by omega) r2 rfl, r3⟩, r4⟩⟩
      | exit id =>
        obtain ⟨k4, i4⟩ := hp
        obtain ⟨r1, r2, r3, r4⟩ := close (some (.exit id)) V4 k4
        exact ⟨_, _, r1, .inr ⟨rfl, .exit id, ⟨(hIx _).putObj _ i4 (by omega) r2 rfl, r3⟩, r4⟩⟩
      | goto t =>
        obtain ⟨k4, i4⟩ := hp
        obtain ⟨r1, r2, r3, r4⟩ := close (some (.goto t)) V4 k4
        exact ⟨_, _, r1, .inr ⟨rfl, .goto t, ⟨(hIx _).putObj _ i4 (by omega) r2 rfl, r3⟩, r4⟩⟩
      | panic ch => exact hp.elim
      | outgrown => exact hp.elim
    · rintro e V ⟨⟨v, rfl⟩, (⟨xs, s1, ⟨i1, l1⟩, k1⟩ | ⟨pre, s1, c, ⟨i1, l1⟩, k1⟩)⟩
      · exact ⟨none, _, run_endLoop (P := P) l1 (by simp [rc]), hdone _ xs _ (Nat.le_refl _) (hS.putObj _ s1 (by omega) l1 rfl) (hI.putObj _ i1 (by omega) l1 rfl) ((World.putObj_heap_other (by omega)).trans k1)⟩
      · exact ⟨some c, _, run_endLoop (P := P) l1 (by simp [rc]), hstop _ c pre _ (Nat.le_refl _) (hSp.putObj _ s1 (by omega) l1 rfl) ((hIx c).putObj _ i1 (by omega) l1 rfl) ((World.putObj_heap_other (by omega)).trans k1)⟩
end Go.Proofs.YtoafebndlldclaaDoor.Sn
