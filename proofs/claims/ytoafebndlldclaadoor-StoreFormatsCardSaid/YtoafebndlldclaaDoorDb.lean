/- The disk in memory, and the calls of its small functions, Read, Write, Sync and Dirty. -/
import Derived.Laws.Rows
import Derived.Laws.CopyRow
import Derived.Lib.BufferWrite
import Derived.StillTailTactics
import Derived.Maps.RangeWalk
import Derived.Maps.OwnSet
import Derived.WalkKit
import Derived.Deep.RegionLaw
import Derived.Laws.CopyOwn
import Derived.Lib.Hide
import Derived.Test.YtoafebndlldclaaDoorPa
import Derived.Test.YtoafebndlldclaaDoorProg
import Derived.Deep.Draws
import Derived.OwnWalk
import Derived.RegionTactic
import Derived.Carry
import Derived.Defers
import Derived.Laws.IdiomStrings
import Derived.Sort.OwnSorted
import Derived.Maps.AppendAt
namespace Go.Proofs.YtoafebndlldclaaDoor.Dk
open Go Go.RowKit Go.ChangeMaps Go.MapKept

/-- what a call keeps: all blocks that were there, but those in S -/
structure Kp (S : Nat → Prop) (w w' : World) : Prop where
  os : w'.os = w.os
  tape : w'.tape = w.tape
  output : w'.output = w.output
  size : w.heap.size ≤ w'.heap.size
  block : ∀ k, k < w.heap.size → ¬ S k → w'.heap[k]? = w.heap[k]?

theorem Kp.refl (S : Nat → Prop) (w : World) : Kp S w w := ⟨rfl, rfl, rfl, Nat.le_refl _, fun _ _ _ => rfl⟩
theorem Kp.trans {S : Nat → Prop} {a b c : World} (h : Kp S a b) (k : Kp S b c) : Kp S a c :=
  ⟨k.os.trans h.os, k.tape.trans h.tape, k.output.trans h.output, Nat.le_trans h.size k.size, fun i hi hs => (k.block i (Nat.lt_of_lt_of_le hi h.size) hs).trans (h.block i hi hs)⟩
theorem Kp.mono {S S' : Nat → Prop} {w w' : World} (h : Kp S w w') (hS : ∀ k, S k → S' k) : Kp S' w w' := ⟨h.os, h.tape, h.output, h.size, fun k hk hs => h.block k hk (fun e => hs (hS k e))⟩
theorem Kp.of_below {S : Nat → Prop} {w w' : World} (h : Below w.heap.size w w') : Kp S w w' := ⟨h.os, h.tape, h.output, h.size, fun k hk _ => h.block k hk⟩
theorem Kp.of_grown {S : Nat → Prop} {w w' : World} {row : Option Nat} (h : w.grownBy w' row) (hr : ∀ k, row = some k → S k) : Kp S w w' :=
  ⟨h.os, h.tape, h.output, h.size, fun k hk hs => h.block k hk (fun e => hs (hr k e.symm))⟩
theorem Kp.alloc {S : Nat → Prop} {a w : World} (h : Kp S a w) (o : Obj) : Kp S a (w.alloc o) := h.trans (.of_below ((Below.refl _ w).alloc (Nat.le_refl _) o))
theorem Kp.drew {S : Nat → Prop} {a w : World} (h : Kp S a w) : Kp S a w.drew := h.trans (.of_below (Below.refl _ w).drew)
theorem Kp.setCell {S : Nat → Prop} {a w : World} (h : Kp S a w) {p : Addr} (hp : S p.block) (u : Value) : Kp S a (w.setCell p u) :=
  h.trans ⟨rfl, rfl, rfl, by simp [World.setCell], fun k _ hs => Below.heap_setCell _ _ _ _ (fun e => hs (by rw [e]; exact hp))⟩
/-- a store into a block that is new -/
theorem Kp.setNew {S : Nat → Prop} {a w : World} (h : Kp S a w) {p : Addr} (hp : a.heap.size ≤ p.block) (u : Value) : Kp S a (w.setCell p u) :=
  ⟨h.os, h.tape, h.output, by simpa [World.setCell] using h.size, fun k hk hs => (Below.heap_setCell _ _ _ _ (by omega)).trans (h.block k hk hs)⟩
theorem Kp.setRow {S : Nat → Prop} {a w : World} (h : Kp S a w) {g : Nat} (hg : S g) (cs : Array Value) : Kp S a (w.setRow g cs) :=
  h.trans ⟨rfl, rfl, rfl, by simp [World.setRow], fun k _ hs => setRow_other w g k cs (fun e => hs (by rw [e]; exact hg))⟩
theorem Kp.setRowNew {S : Nat → Prop} {a w : World} (h : Kp S a w) {g : Nat} (hg : a.heap.size ≤ g) (cs : Array Value) : Kp S a (w.setRow g cs) :=
  ⟨h.os, h.tape, h.output, by simpa [World.setRow] using h.size, fun k hk hs => (setRow_other w g k cs (by omega)).trans (h.block k hk hs)⟩
theorem Kp.then {S : Nat → Prop} {a b c : World} (h : Kp S a b) (k : Kp (fun j => S j ∨ a.heap.size ≤ j) b c) : Kp S a c :=
  ⟨k.os.trans h.os, k.tape.trans h.tape, k.output.trans h.output, Nat.le_trans h.size k.size, fun i hi hs => (k.block i (Nat.lt_of_lt_of_le hi h.size) (fun e => e.elim hs (fun e => by omega))).trans (h.block i hi hs)⟩
theorem Kp.grownBy {S : Nat → Prop} {a b c : World} {row : Option Nat} (h : Kp S a b) (k : b.grownBy c row) (hr : ∀ j, row = some j → S j ∨ a.heap.size ≤ j) : Kp S a c := h.then (.of_grown k hr)
theorem Kp.below {S : Nat → Prop} {w w' : World} (h : Kp S w w') {B : Nat} (hS : ∀ k, S k → B ≤ k) (hB : B ≤ w.heap.size) : Below B w w' :=
  ⟨h.os, h.tape, h.output, h.size, fun k hk => h.block k (by omega) (fun e => by have := hS k e; omega)⟩
theorem Kp.cell {S : Nat → Prop} {w w' : World} (h : Kp S w w') {p : Addr} (hp : p.block < w.heap.size) (hs : ¬ S p.block) : w'.cell? p = w.cell? p := World.cell?_of_block (h.block _ hp hs)
theorem Kp.frozen {S : Nat → Prop} {w w' : World} (h : Kp S w w') {p : Addr} (hp : p.block < w.heap.size) (hs : ¬ S p.block) : w'.frozen? p = w.frozen? p := World.frozen?_of_block (h.block _ hp hs)

section
variable {P : Program} {w : World} {ops : Array Oper} {rest : List Oper} {o : Oper} {a : Act} {Q : Exit → Act → World → Prop}

/-- 'var x [64]byte': a new block of so many zero cells -/
theorem wpList_alloc_agg (hg : o.guard = none) (t : TypeId) (hop : o.op = Op.alloc t) (zs : Array Value) (hz : (P.info? t).bind (·.zero) = some (.agg zs))
    (h : wpList P ops Q rest (a.put o.dst (.pointer (some ⟨w.heap.size, 0, none⟩))) (w.alloc (.cells zs t))) : wpList P ops Q (o :: rest) a w := by
  refine wpList_plain hg fun K hK => ?_
  cases hq : P.info? t with
  | none => simp [hq] at hz
  | some i =>
    have hz' : i.zero = some (.agg zs) := by simpa [hq] using hz
    unfold Oper.wp
    simp [execOp, hop, Instr.alloc, zeroValue, typeInfo, hq, hz', newVar, newRow, Value.cells, Result.andThen]
    exact hK _ _ h

theorem run_loadVar_part (g off : Nat) (t ty : TypeId) (cur : Array Value) (fr : Nat × Nat) (d : TypeDesc) (cs : List Value) (hg : w.heap[g]? = some (.cells cur t fr))
    (hc : ∀ j v, cs[j]? = some v → cur[off + j]? = some v) (hu : P.underlying ty = some d) (hd : (match d with | .struct _ | .array _ _ => true | _ => false) = true) (hi : (P.info? ty).map (·.size) = some cs.length) :
    (loadVar ty ⟨g, off, none⟩).run P w = .ok (.agg cs.toArray) w := by
  have hl : (loadCells ⟨g, off, none⟩ cs.length).run P w = .ok cs.toArray w :=
    run_loadCells_list (P := P) w ⟨g, off, none⟩ cs (fun j v hv => by
      have hadd : (⟨g, off, none⟩ : Addr).add j = ⟨g, off + j, none⟩ := by unfold Addr.add; split <;> simp_all
      rw [hadd, cell_of_row w g (off + j) cur t fr hg]
      exact hc j v hv)
  cases hq : P.info? ty with
  | none => simp [hq] at hi
  | some i =>
    have hs : i.size = cs.length := by simpa [hq] using hi
    have hagg : (isAgg ty).run P w = .ok true w := by
      unfold isAgg
      rw [Sem.run_bind, run_underlying hu w]
      cases d <;> simp_all
    simp [loadVar, Sem.run_bind, hagg, sizeOf, typeInfo, hq, hs, hl]

/-- an array in the midst of a row is read -/
theorem wpList_load_part (hgd : o.guard = none) (ty : TypeId) (x : Operand) (ho : o.op = .load ty x) (g off : Nat) (hx : a.eval x = .pointer (some ⟨g, off, none⟩)) (t : TypeId) (cur : Array Value) (fr : Nat × Nat) (d : TypeDesc)
    (cs : List Value) (hg : w.heap[g]? = some (.cells cur t fr)) (hc : ∀ j v, cs[j]? = some v → cur[off + j]? = some v) (hu : P.underlying ty = some d) (hd : (match d with | .struct _ | .array _ _ => true | _ => false) = true) (hi : (P.info? ty).map (·.size) = some cs.length)
    (h : wpList P ops Q rest (a.put o.dst (.agg cs.toArray)) w) : wpList P ops Q (o :: rest) a w := by
  refine wpList_plain hgd fun K hK => ?_
  unfold Oper.wp execOp
  simp only [ho, hx, Instr.loadAt, Instr.sureAddr, Sem.run_bind, Sem.run_pure, Result.andThen_ok, run_loadVar_part g off t ty cur fr d cs hg hc hu hd hi]
  exact hK _ _ h

theorem run_storeVar_part (g off : Nat) (t ty : TypeId) (cur : Array Value) (cs : List Value) (hg : w.heap[g]? = some (.cells cur t (0, 0))) (hfit : off + cs.length ≤ cur.size) (h1 : ∀ v ∈ cs, v.oneCell' = true) (hi : (P.info? ty).map (·.size) = some cs.length) :
    (storeVar ty ⟨g, off, none⟩ (.agg cs.toArray)).run P w = .ok () (w.setRow g (splice cur.toList off cs).toArray) := by
  have hst := run_storeCells_at P g off t cs 0 cur w hg (by simpa using hfit) h1
  cases hq : P.info? ty with
  | none => simp [hq] at hi
  | some i =>
    have hs : i.size = cs.length := by simpa [hq] using hi
    simp [storeVar, Value.cells, sizeOf, typeInfo, hq, hs, hst, splice, List.append_assoc]

/-- an array is written into a row -/
theorem wpList_store_part (hgd : o.guard = none) (ty : TypeId) (x y : Operand) (ho : o.op = .store ty x y) (g off : Nat) (hx : a.eval x = .pointer (some ⟨g, off, none⟩)) (cs : List Value) (hy : a.eval y = .agg cs.toArray) (t : TypeId) (cur : Array Value)
    (hg : w.heap[g]? = some (.cells cur t (0, 0))) (hfit : off + cs.length ≤ cur.size) (h1 : ∀ v ∈ cs, v.oneCell' = true) (hi : (P.info? ty).map (·.size) = some cs.length)
    (h : wpList P ops Q rest (a.put o.dst undef) (w.setRow g (splice cur.toList off cs).toArray)) : wpList P ops Q (o :: rest) a w := by
  refine wpList_plain hgd fun K hK => ?_
  unfold Oper.wp execOp
  simp only [ho, hx, hy, Instr.storeAt, Instr.sureAddr, Sem.run_bind, Sem.run_pure, Result.andThen_ok, run_storeVar_part g off t ty cur cs hg hfit h1 hi]
  exact hK _ _ h

/-- an operation of a region's head: an array is read -/
theorem still_load_row {K : Act → Prop} {E : Prop} (hgd : o.guard = none) (ty : TypeId) (x : Operand) (ho : o.op = .load ty x) (g off : Nat) (hx : a.eval x = .pointer (some ⟨g, off, none⟩)) (t : TypeId) (cur : Array Value) (fr : Nat × Nat) (d : TypeDesc)
    (cs : List Value) (hg : w.heap[g]? = some (.cells cur t fr)) (hc : ∀ j v, cs[j]? = some v → cur[off + j]? = some v) (hu : P.underlying ty = some d) (hd : (match d with | .struct _ | .array _ _ => true | _ => false) = true) (hi : (P.info? ty).map (·.size) = some cs.length)
    (h : K (a.put o.dst (.agg cs.toArray))) : if Region.wanted o (yielded ops a.tmps) then o.still P a w K else E := by
  have hw : Region.wanted o (yielded ops a.tmps) = true := by simp [Region.wanted, hgd]
  rw [if_pos hw]
  unfold Oper.still execOp
  simp only [ho, hx, Instr.loadAt, Instr.sureAddr, Sem.run_bind, Sem.run_pure, Result.andThen_ok, run_loadVar_part g off t ty cur fr d cs hg hc hu hd hi]
  simp [Oper.stillUpon, h]

theorem run_copy_row_string' (dT sT ty elem : TypeId) (g o' dLen dCap : Nat) (s : ByteArray) (cur : Array Value) (t : TypeId)
    (hu : P.underlying dT = some (.slice elem)) (hs : (P.info? elem).map (·.size) = some 1) (hg : w.heap[g]? = some (.cells cur t (0, 0))) (hfit : o' + Nat.min s.size dLen ≤ cur.size) :
    (Builtin.copy_ #[dT, sT] ty #[.slice (some ⟨g, o', none⟩) dLen dCap, .string s]).run P w =
      .ok (goInt (Nat.min s.size dLen)) (w.setRow g (splice cur.toList o' (Lib.byteCells (s.data.toList.take dLen))).toArray) := by
  have hsz : s.data.toList.length = s.size := by rw [Array.length_toList]; rfl
  have hlen : (Lib.byteCells (s.data.toList.take dLen)).length = Nat.min s.size dLen := by rw [Lib.byteCells_length, List.length_take, hsz]; exact Nat.min_comm _ _
  have hst := run_storeCells_at P g o' t (Lib.byteCells (s.data.toList.take dLen)) 0 cur w hg (by rw [hlen]; simpa using hfit) (Lib.byteCells_one _)
  have htk : List.take (Nat.min s.size dLen) (List.map (fun b : UInt8 => Value.int IntKind.u8 (b.toNat : Int)) s.data.toList) = Lib.byteCells (s.data.toList.take dLen) := by
    unfold Lib.byteCells
    rw [List.map_take]
    by_cases h : s.size ≤ dLen
    · rw [show Nat.min s.size dLen = s.size from Nat.min_eq_left h, List.take_of_length_le (by simp [hsz]), List.take_of_length_le (by simp [hsz]; exact h)]
    · rw [show Nat.min s.size dLen = dLen from Nat.min_eq_right (by omega)]
  simp only [Nat.add_zero] at hst
  cases hq : P.info? elem with
  | none => simp [hq] at hs
  | some i =>
    simp [Builtin.copy_, run_underlying hu, Builtin.lenOf, Builtin.firstCells, sizeOf, typeInfo, hq]
    rw [htk, hst]
    simp [Result.andThen, splice, List.append_assoc]

/-- 'copy(x[:], s)' -/
theorem wpList_copy_string (hgd : o.guard = none) (d s : Operand) (dT sT : TypeId) (ho : o.op = .call { callee := .builtin .copy, args := #[d, s], argTypes := #[dT, sT] }) (elem : TypeId) (hu : P.underlying dT = some (.slice elem)) (hsz : (P.info? elem).map (·.size) = some 1)
    (g off dLen dCap : Nat) (x : ByteArray) (hd : a.eval d = .slice (some ⟨g, off, none⟩) dLen dCap) (hs : a.eval s = .string x) (cur : Array Value) (t : TypeId) (hg : w.heap[g]? = some (.cells cur t (0, 0))) (hfit : off + Nat.min x.size dLen ≤ cur.size)
    (h : wpList P ops Q rest (a.put o.dst (.int .i64 (Nat.min x.size dLen : Nat))) (w.setRow g (splice cur.toList off (Lib.byteCells (x.data.toList.take dLen))).toArray)) : wpList P ops Q (o :: rest) a w := by
  refine wpList_plain hgd fun K hK => ?_
  have hrun := run_copy_row_string' (P := P) (w := w) dT sT o.type elem g off dLen dCap x cur t hu hsz hg hfit
  unfold Oper.wp
  simp [execOp, ho, resolve, invoke, builtin, hd, hs, hrun, Result.andThen, goInt]
  exact hK _ _ h

/-- 'clear(m)' -/
theorem wpList_clear_own {H : Type} (hgd : o.guard = none) (m : Operand) (t : TypeId) (ho : o.op = .call { callee := .builtin .clear, args := #[m], argTypes := #[t] }) (k e : TypeId) (ht : P.underlying t = some (.map k e)) (R : Value → Option (DataW H × List MemPlace)) (b n : Nat) (D : DataW H)
    (hm : a.eval m = .map (some b)) (hown : w.ownsMap P k R b n D)
    (h : ∀ w', w'.ownsMap P k R b 0 (.map []) → w.mapTurned w' b → wpList P ops Q rest (a.put o.dst (.tuple #[])) w') : wpList P ops Q (o :: rest) a w := by
  refine wpList_plain hgd fun K hK => ?_
  obtain ⟨es, clock, hb, F, hs, hD⟩ := hown
  have hrun : (Builtin.clear_ #[t] o.type #[.map (some b)]).run P w = .ok (.tuple #[]) (setBlock w b (.map #[] clock)) := by
    simp [Builtin.clear_, run_underlying ht, MapKept.run_getObj_map hb, run_setObj_map _ hb, Result.andThen]
    rfl
  unfold Oper.wp
  simp [execOp, ho, resolve, invoke, builtin, hm, hrun, Result.andThen]
  refine hK _ _ (h _ ⟨#[], clock, heap_setBlock_same hb _, ⟨by simp, ?_, by simp⟩, Nat.le_refl _, rfl⟩ ⟨es, clock, #[], clock, hb, rfl⟩)
  exact MapKept.stamped_empty _
end

/-- a region that draws its order, whose operations from n on end it -/
theorem region_tail {P : Program} {id : Nat} {Q : Exit → Act → World → Prop} {a : Act} {w : World} {l : List Oper} (n : Nat) (hm : P.follows .mixedOrders = true) (hB : Region.lexTailB .any l.toArray n = true)
    (h : wpStill P l.toArray w.drew (fun a' => wpList P l.toArray Q (l.drop n) a' w.drew) (l.take n) a) : (Code.region id l.toArray true).wp P Q a w := wp_region_still_tail n hm hB h

/-- how many entries a map has is told by what it reads as -/
theorem ownsMap_size {H : Type} {P : Program} {k : TypeId} {R : Value → Option (DataW H × List MemPlace)} {w : World} {b n : Nat} {D : DataW H} (h : w.ownsMap P k R b n D) : w.ownsMap P k R b (Maps.size D) D := by
  obtain ⟨es, clock, hb, F, hs, rfl⟩ := h
  exact ⟨es, clock, hb, F, by simp [Maps.size, length_sorted], rfl⟩

end Go.Proofs.YtoafebndlldclaaDoor.Dk

namespace Go.Proofs.YtoafebndlldclaaDoor.Dk
open Go Go.RowKit Go.ChangeMaps Go.MapKept

theorem byteCells_inj : ∀ {a b : Bs}, Lib.byteCells a = Lib.byteCells b → a = b := by
  intro a
  induction a with
  | nil => intro b h; cases b with
    | nil => rfl
    | cons c b => simp [Lib.byteCells] at h
  | cons x a ih => intro b h; cases b with
    | nil => simp [Lib.byteCells] at h
    | cons y b =>
      simp only [Lib.byteCells, List.map_cons, List.cons.injEq] at h
      obtain ⟨h1, h2⟩ := h
      have e : (x.toNat : Int) = y.toNat := by simpa using h1
      have : x = y := UInt8.toNat_inj.1 (by omega)
      rw [this, ih h2]

theorem agg_inj {a b : Bs} (h : (Value.agg (Lib.byteCells a).toArray) = .agg (Lib.byteCells b).toArray) : a = b := by
  injection h with h
  exact byteCells_inj (by simpa using congrArg Array.toList h)

open Classical in
/-- how a sector reads -/
noncomputable def secElem (v : Value) : Option (DataW Unit × List MemPlace) :=
  if h : ∃ l : Bs, l.length = 64 ∧ v = .agg (Lib.byteCells l).toArray then some (.lit (.string h.choose), []) else none

theorem secElem_mk {l : Bs} (hl : l.length = 64) : secElem (.agg (Lib.byteCells l).toArray) = some (.lit (.string l), []) := by
  have h : ∃ l' : Bs, l'.length = 64 ∧ (Value.agg (Lib.byteCells l).toArray) = .agg (Lib.byteCells l').toArray := ⟨l, hl, rfl⟩
  unfold secElem
  rw [dif_pos h, ← agg_inj h.choose_spec.2]

theorem secElem_inv {v : Value} {y : DataW Unit × List MemPlace} (h : secElem v = some y) : ∃ l : Bs, l.length = 64 ∧ v = .agg (Lib.byteCells l).toArray ∧ y = (.lit (.string l), []) := by
  unfold secElem at h
  split at h
  · rename_i hx
    cases h
    exact ⟨hx.choose, hx.choose_spec.1, hx.choose_spec.2, rfl⟩
  · cases h

/-! ### what was written, as a map reads -/
def ents : Nat → List (Option Bs) → List (Lit × DataW Unit)
  | _, [] => []
  | k, none :: r => ents (k + 1) r
  | k, some s :: r => (.int .i64 k, .lit (.string s)) :: ents (k + 1) r
def datum (l : List (Option Bs)) : DataW Unit := .map (ents 0 l)

theorem ents_key {l : List (Option Bs)} : ∀ {k : Nat} {p}, p ∈ ents k l → ∃ i : Nat, k ≤ i ∧ p.1 = .int .i64 i := by
  induction l with
  | nil => intro k p h; simp [ents] at h
  | cons x l ih =>
    intro k p h
    cases x with
    | none => obtain ⟨i, h1, h2⟩ := ih h; exact ⟨i, by omega, h2⟩
    | some s =>
      rcases List.mem_cons.1 h with rfl | h
      · exact ⟨k, Nat.le_refl _, rfl⟩
      · obtain ⟨i, h1, h2⟩ := ih h; exact ⟨i, by omega, h2⟩

theorem sameKey_int (a b : Int) : (Lit.int .i64 a).sameKey (.int .i64 b) = decide (a = b) := by simp [Lit.sameKey]

theorem ents_find {l : List (Option Bs)} : ∀ {k : Nat} {x : Int}, (ents k l).find? (fun p => p.1.sameKey (.int .i64 x)) = if (k : Int) ≤ x then (match l[(x - k).toNat]? with | some (some s) => some (.int .i64 x, .lit (.string s)) | _ => none) else none := by
  induction l with
  | nil => intro k x; simp [ents]
  | cons y l ih =>
    intro k x
    cases y with
    | none =>
      simp only [ents]
      rw [ih]
      by_cases h : (k : Int) ≤ x
      · by_cases e : x = k
        · subst e; rw [if_neg (by omega), if_pos h]; simp
        · rw [if_pos (by omega), if_pos h, show (x - (k : Int)).toNat = (x - ((k + 1 : Nat) : Int)).toNat + 1 from by omega, List.getElem?_cons_succ]
      · rw [if_neg (by omega), if_neg h]
    | some s =>
      simp only [ents, List.find?_cons, sameKey_int]
      by_cases e : (k : Int) = x
      · subst e
        simp
      · rw [decide_eq_false e, ih]
        by_cases h : (k : Int) ≤ x
        · rw [if_pos (by omega), if_pos h, show (x - (k : Int)).toNat = (x - ((k + 1 : Nat) : Int)).toNat + 1 from by omega, List.getElem?_cons_succ]
        · rw [if_neg (by omega), if_neg h]

theorem datum_at (l : List (Option Bs)) (i : Nat) (zd : DataW Unit) : (datum l).atKey (.int .i64 i) zd = match l[i]? with | some (some s) => .lit (.string s) | _ => zd := by
  simp only [datum, DataW.atKey, ents_find]
  rw [if_pos (by omega)]
  rw [show ((i : Int) - ((0 : Nat) : Int)).toNat = i from by omega]
  cases l[i]? with
  | none => rfl
  | some y => cases y <;> rfl

theorem datum_hit {l : List (Option Bs)} {x : Int} {c : Bs} (h : ∀ zd, (datum l).atKey (.int .i64 x) zd = .lit (.string c)) : ∃ i : Nat, x = i ∧ l[i]? = some (some c) := by
  have h0 := h (.map [])
  simp only [datum, DataW.atKey, ents_find] at h0
  by_cases hx : ((0 : Nat) : Int) ≤ x
  · rw [if_pos hx] at h0
    refine ⟨x.toNat, by omega, ?_⟩
    rw [show (x - ((0 : Nat) : Int)).toNat = x.toNat from by omega] at h0
    cases hl : l[x.toNat]? with
    | none => rw [hl] at h0; simp at h0
    | some y =>
      cases y with
      | none => rw [hl] at h0; simp at h0
      | some s => rw [hl] at h0; simp at h0; rw [h0]
  · rw [if_neg hx] at h0; simp at h0

theorem datum_has (l : List (Option Bs)) (i : Nat) : Maps.has (datum l) (.int .i64 i) = (l.getD i none).isSome := by
  cases hl : l.getD i none with
  | none =>
    refine Maps.has_false_of_atKey fun z => ?_
    rw [datum_at]
    rw [List.getD_eq_getElem?_getD] at hl
    cases h : l[i]? with
    | none => rfl
    | some y => rw [h] at hl; simp at hl; subst hl; rfl
  | some s =>
    refine Maps.has_true_of_atKey (y := .lit (.string s)) fun z => ?_
    rw [datum_at]
    rw [List.getD_eq_getElem?_getD] at hl
    cases h : l[i]? with
    | none => rw [h] at hl; simp at hl
    | some y => rw [h] at hl; simp at hl; subst hl; rfl

theorem ents_filter {l : List (Option Bs)} {k i : Nat} (h : i < k) : (ents k l).filter (fun p => !p.1.sameKey (.int .i64 i)) = ents k l := by
  rw [List.filter_eq_self]
  intro p hp
  obtain ⟨j, h1, h2⟩ := ents_key hp
  rw [h2, sameKey_int, decide_eq_false (by omega)]; rfl

theorem ents_insert {l : List (Option Bs)} {k i : Nat} (h : i < k) (d : DataW Unit) : DataW.insert (.int .i64 i, d) (ents k l) = (.int .i64 i, d) :: ents k l := by
  cases hl : ents k l with
  | nil => rfl
  | cons p r =>
    obtain ⟨j, h1, h2⟩ := ents_key (p := p) (by rw [hl]; simp)
    unfold DataW.insert
    rw [if_pos]
    rw [h2]; simp [Lit.before]; omega

theorem ents_put {s : Bs} : ∀ {l : List (Option Bs)} {k i : Nat}, k ≤ i → i < k + l.length →
    DataW.insert (.int .i64 i, .lit (.string s)) ((ents k l).filter (fun p => !p.1.sameKey (.int .i64 i))) = ents k (l.set (i - k) (some s)) := by
  intro l
  induction l with
  | nil => intro k i h1 h2; simp at h2; omega
  | cons x l ih =>
    intro k i h1 h2
    by_cases e : i = k
    · subst e
      rw [Nat.sub_self, List.set_cons_zero]
      cases x with
      | none =>
        simp only [ents]
        rw [ents_filter (by omega), ents_insert (by omega)]
      | some y =>
        simp only [ents, List.filter_cons, sameKey_int, decide_true, Bool.not_true, Bool.false_eq_true, if_false]
        rw [ents_filter (by omega), ents_insert (by omega)]
    · have h3 : i < k + 1 + l.length := by simp at h2; omega
      rw [show i - k = (i - (k + 1)) + 1 from by omega, List.set_cons_succ]
      cases x with
      | none => exact ih (by omega) h3
      | some y =>
        have hne : ((k : Int) = (i : Int)) = False := by simp; omega
        simp only [ents, List.filter_cons, sameKey_int, hne, decide_false, Bool.not_false, if_true]
        unfold DataW.insert
        rw [if_neg (by simp [Lit.before]; omega)]
        rw [ih (by omega) h3]

theorem datum_put (l : List (Option Bs)) (i : Nat) (h : i < l.length) (s : Bs) : (datum l).put (.int .i64 i) (.lit (.string s)) = datum (l.set i (some s)) := by
  simp only [datum, DataW.put]
  rw [ents_put (by omega) (by omega)]
  rfl

theorem ents_length (l : List (Option Bs)) : ∀ k, (ents k l).length ≤ l.length := by
  induction l with
  | nil => intro k; simp [ents]
  | cons x l ih =>
    intro k
    have := ih (k + 1)
    cases x <;> simp [ents] <;> omega
theorem datum_size (l : List (Option Bs)) : Maps.size (datum l) ≤ l.length := ents_length l 0
theorem datum_none (l : List (Option Bs)) : datum (l.map fun _ => none) = .map [] := by
  unfold datum
  congr 1
  have : ∀ (l : List (Option Bs)) (k : Nat), ents k (l.map fun _ => none) = [] := by
    intro l
    induction l with
    | nil => intro k; rfl
    | cons x l ih => intro k; exact ih (k + 1)
  exact this l 0

/-! ### the rows -/
theorem flat_length {l : List Bs} (h : ∀ s ∈ l, s.length = 64) : l.flatten.length = l.length * 64 := by
  induction l with
  | nil => rfl
  | cons x l ih => simp [ih (fun s hs => h s (by simp [hs])), h x (by simp)]; omega

theorem flat_at {l : List Bs} (h : ∀ s ∈ l, s.length = 64) {i : Nat} {x : Bs} (hi : l[i]? = some x) (j : Nat) (hj : j < 64) : l.flatten[i * 64 + j]? = x[j]? := by
  induction l generalizing i with
  | nil => simp at hi
  | cons y l ih =>
    have hy := h y (by simp)
    rw [List.flatten_cons]
    cases i with
    | zero =>
      simp at hi; subst hi
      rw [Nat.zero_mul, Nat.zero_add, List.getElem?_append_left (by omega)]
    | succ i =>
      rw [List.getElem?_cons_succ] at hi
      rw [List.getElem?_append_right (by omega), hy, show (i + 1) * 64 + j - 64 = i * 64 + j from by omega]
      exact ih (fun s hs => h s (by simp [hs])) hi

theorem cells_flat {l : List Bs} (h : ∀ s ∈ l, s.length = 64) {i : Nat} {x : Bs} (hi : l[i]? = some x) : ∀ j v, (Lib.byteCells x)[j]? = some v → (Lib.byteCells l.flatten).toArray[i * 64 + j]? = some v := by
  intro j v hv
  have hx : x.length = 64 := h x (List.mem_of_getElem? hi)
  have hj : j < 64 := by
    have := (List.getElem?_eq_some_iff.1 hv).1
    rw [Lib.byteCells_length] at this; omega
  simp only [Lib.byteCells, List.getElem?_toArray, List.getElem?_map] at hv ⊢
  rw [flat_at h hi j hj]; exact hv

theorem flat_splice {l : List Bs} (h : ∀ s ∈ l, s.length = 64) {i : Nat} {o : Bs} (hi : l[i]? = some o) (x : Bs) (hx : x.length ≤ 64) :
    splice (Lib.byteCells l.flatten) (i * 64) (Lib.byteCells x) = Lib.byteCells (l.set i (x ++ o.drop x.length)).flatten := by
  have hmap : ∀ (a b : Bs) (k : Nat), splice (Lib.byteCells a) k (Lib.byteCells b) = Lib.byteCells (splice a k b) := by
    intro a b k
    simp [splice, Lib.byteCells, List.map_take, List.map_drop]
  rw [hmap]
  congr 1
  induction l generalizing i with
  | nil => simp at hi
  | cons y l ih =>
    have hy := h y (by simp)
    cases i with
    | zero =>
      simp at hi; subst hi
      simp only [splice, Nat.zero_mul, List.take_zero, List.nil_append, Nat.zero_add, List.flatten_cons, List.set_cons_zero, List.append_assoc]
      rw [List.drop_append_of_le_length (by omega)]
    | succ i =>
      rw [List.getElem?_cons_succ] at hi
      rw [List.set_cons_succ, List.flatten_cons, List.flatten_cons, ← ih (fun s hs => h s (by simp [hs])) hi]
      simp only [splice]
      rw [List.take_append, List.take_of_length_le (by omega), hy, show (i + 1) * 64 - 64 = i * 64 from by omega, List.drop_append, List.drop_eq_nil_of_le (by omega), List.nil_append, hy, show (i + 1) * 64 + x.length - 64 = i * 64 + x.length from by omega, List.append_assoc]

/-! ### the disk -/
structure IsDisk (W : World) (b g bm : Nat) (D : DS) : Prop where
  ok : D.Ok
  blk : W.heap[b]? = some (.cells #[.slice (some ⟨g, 0, none⟩) D.olds.length D.olds.length, .map (some bm), .int .i64 D.fuse, .bool D.off] 81 (0, 0))
  row : W.heap[g]? = some (.cells (Lib.byteCells D.olds.flatten).toArray 114 (0, 0))
  map : W.ownsMap Tryd.prog 3 secElem bm (Maps.size (datum D.news)) (datum D.news)

def Foot (b g bm : Nat) (k : Nat) : Prop := k = b ∨ k = g ∨ k = bm

section
variable {W W' : World} {b g bm : Nat} {D : DS}
theorem IsDisk.lt_b (h : IsDisk W b g bm D) : b < W.heap.size := (Array.getElem?_eq_some_iff.1 h.blk).1
theorem IsDisk.lt_g (h : IsDisk W b g bm D) : g < W.heap.size := (Array.getElem?_eq_some_iff.1 h.row).1
theorem IsDisk.lt_m (h : IsDisk W b g bm D) : bm < W.heap.size := h.map.lt
theorem IsDisk.lt (h : IsDisk W b g bm D) {k : Nat} (hk : Foot b g bm k) : k < W.heap.size := by
  rcases hk with rfl | rfl | rfl
  · exact h.lt_b
  · exact h.lt_g
  · exact h.lt_m
theorem IsDisk.bg (h : IsDisk W b g bm D) : b ≠ g := by
  rintro rfl
  have := h.blk.symm.trans h.row
  simp at this
theorem IsDisk.mb (h : IsDisk W b g bm D) : bm ≠ b := by
  rintro rfl
  obtain ⟨es, clock, hb, _⟩ := h.map
  have := h.blk.symm.trans hb
  simp at this
theorem IsDisk.mg (h : IsDisk W b g bm D) : bm ≠ g := by
  rintro rfl
  obtain ⟨es, clock, hb, _⟩ := h.map
  have := h.row.symm.trans hb
  simp at this
theorem IsDisk.same (h : IsDisk W b g bm D) (_hs : W.heap.size ≤ W'.heap.size) (hk : ∀ k, Foot b g bm k → W'.heap[k]? = W.heap[k]?) : IsDisk W' b g bm D := by
  refine ⟨h.ok, (hk b (.inl rfl)).trans h.blk, (hk g (.inr (.inl rfl))).trans h.row, ?_⟩
  obtain ⟨es, clock, hb, r⟩ := h.map
  exact ⟨es, clock, (hk bm (.inr (.inr rfl))).trans hb, r⟩
theorem IsDisk.kept {S : Nat → Prop} (h : IsDisk W b g bm D) (k : Kp S W W') (hS : ∀ k, Foot b g bm k → ¬ S k) : IsDisk W' b g bm D := h.same k.size fun j hj => k.block j (h.lt hj) (hS j hj)
theorem IsDisk.below (h : IsDisk W b g bm D) (k : Below W.heap.size W W') : IsDisk W' b g bm D := h.same k.size fun j hj => k.block j (h.lt hj)
theorem IsDisk.alloc (h : IsDisk W b g bm D) (o : Obj) : IsDisk (W.alloc o) b g bm D := h.below ((Below.refl _ _).alloc (Nat.le_refl _) o)
theorem IsDisk.drew (h : IsDisk W b g bm D) : IsDisk W.drew b g bm D := h.same (Nat.le_refl _) fun _ _ => rfl
theorem IsDisk.drewN (h : IsDisk W b g bm D) (n : Nat) : IsDisk (W.drewN n) b g bm D := h.same (Nat.le_refl _) fun _ _ => rfl
theorem IsDisk.setCell (h : IsDisk W b g bm D) {p : Addr} (hp : ¬ Foot b g bm p.block) (u : Value) : IsDisk (W.setCell p u) b g bm D :=
  h.same (by simp [World.setCell]) fun j hj => Below.heap_setCell _ _ _ _ (fun e => hp (by rw [← e]; exact hj))
theorem IsDisk.setRow (h : IsDisk W b g bm D) {p : Nat} (hp : ¬ Foot b g bm p) (cs : Array Value) : IsDisk (W.setRow p cs) b g bm D :=
  h.same (by simp [World.setRow]) fun j hj => setRow_other W p j cs (fun e => hp (by rw [← e]; exact hj))

theorem IsDisk.cell (h : IsDisk W b g bm D) (j : Nat) : W.cell? ⟨b, j, none⟩ = (#[.slice (some ⟨g, 0, none⟩) D.olds.length D.olds.length, .map (some bm), .int .i64 D.fuse, .bool D.off] : Array Value)[j]? := cell_of_row W b j _ _ _ h.blk
theorem IsDisk.c0 (h : IsDisk W b g bm D) : W.cell? ⟨b, 0, none⟩ = some (.slice (some ⟨g, 0, none⟩) D.olds.length D.olds.length) := h.cell 0
theorem IsDisk.c1 (h : IsDisk W b g bm D) : W.cell? ⟨b, 1, none⟩ = some (.map (some bm)) := h.cell 1
theorem IsDisk.c2 (h : IsDisk W b g bm D) : W.cell? ⟨b, 2, none⟩ = some (.int .i64 D.fuse) := h.cell 2
theorem IsDisk.c3 (h : IsDisk W b g bm D) : W.cell? ⟨b, 3, none⟩ = some (.bool D.off) := h.cell 3
theorem IsDisk.free (h : IsDisk W b g bm D) (j : Nat) : W.frozen? ⟨b, j, none⟩ = false := frozen_of_row W b j _ _ h.blk

theorem IsDisk.setFuse (h : IsDisk W b g bm D) (f : Nat) (hf : f ≤ 9223372036854775807) : IsDisk (W.setCell ⟨b, 2, none⟩ (.int .i64 f)) b g bm { D with fuse := f } :=
  ⟨Ok.fuse' h.ok hf D.off, by have := heap_setCell_same W b 2 _ _ (.int .i64 f) h.blk; simpa using this, (Below.heap_setCell _ _ _ _ h.bg.symm).trans h.row, h.map.setCell h.mb _⟩
theorem IsDisk.setOff (h : IsDisk W b g bm D) (x : Bool) : IsDisk (W.setCell ⟨b, 3, none⟩ (.bool x)) b g bm { D with off := x } :=
  ⟨Ok.fuse' h.ok h.ok.fuse x, by have := heap_setCell_same W b 3 _ _ (.bool x) h.blk; simpa using this, (Below.heap_setCell _ _ _ _ h.bg.symm).trans h.row, h.map.setCell h.mb _⟩

/-- the map has turned -/
theorem IsDisk.turned {n : Nat} {news : List (Option Bs)} (h : IsDisk W b g bm D) (ht : W.mapTurned W' bm) (hm : W'.ownsMap Tryd.prog 3 secElem bm n (datum news)) (hl : news.length = D.olds.length) (hn : ∀ s, some s ∈ news → s.length = 64) : IsDisk W' b g bm { D with news := news } :=
  ⟨⟨hl, h.ok.lo, h.ok.hi, h.ok.old, hn, h.ok.fuse⟩, (ht.grown.block b h.lt_b (by simpa using h.mb.symm)).trans h.blk, (ht.grown.block g h.lt_g (by simpa using h.mg.symm)).trans h.row, ownsMap_size hm⟩
/-- a sector has been written -/
theorem IsDisk.rowSet (h : IsDisk W b g bm D) {i : Nat} {o : Bs} (hi : D.olds[i]? = some o) {x : Bs} (hx : x.length ≤ 64) :
    IsDisk (W.setRow g (splice (Lib.byteCells D.olds.flatten).toArray.toList (i * 64) (Lib.byteCells x)).toArray) b g bm { D with olds := D.olds.set i (x ++ o.drop x.length) } := by
  have ho : o.length = 64 := h.ok.old o (List.mem_of_getElem? hi)
  refine ⟨⟨by simp [h.ok.len], by simp [h.ok.lo], by simp [h.ok.hi], ?_, h.ok.new, h.ok.fuse⟩, ?_, ?_, ?_⟩
  · intro s hs
    rcases List.mem_or_eq_of_mem_set hs with hs | hs
    · exact h.ok.old s hs
    · rw [hs, List.length_append, List.length_drop]; omega
  · rw [setRow_other _ _ _ _ h.bg, List.length_set]; exact h.blk
  · rw [List.toList_toArray, flat_splice h.ok.old hi x hx]
    exact setRow_heap W g _ _ _ _ h.row
  · obtain ⟨es, clock, hb, r⟩ := h.map
    exact ⟨es, clock, (setRow_other _ _ _ _ h.mg).trans hb, r⟩
end
end Go.Proofs.YtoafebndlldclaaDoor.Dk

namespace Go.Proofs.YtoafebndlldclaaDoor.Dk
open Go Go.RowKit

section
variable {W : World} {b g bm : Nat} {D : DS}

set_option maxRecDepth 100000 in
set_option maxHeartbeats 1000000 in
theorem up_any (h : IsDisk W b g bm D) : Calls Tryd.prog 39 #[.pointer (some ⟨b, 0, none⟩)] W fun e w' => e = .returned (.bool (!D.off)) ∧ W = w' := by
  have c3 := h.c3
  have hnot : ∀ (x : Bool) (w : World), (Op.unary .not (.bool x)).run Tryd.prog w = .ok (.bool (!x)) w := fun _ _ => rfl
  go_enter Tryd.func39, Tryd.ntmps39
  go_wp2
  go_ret
  exact ⟨rfl, rfl⟩

set_option maxRecDepth 100000 in
set_option maxHeartbeats 1000000 in
theorem len_any (h : IsDisk W b g bm D) : Calls Tryd.prog 45 #[.pointer (some ⟨b, 0, none⟩)] W fun e w' => e = .returned (.int .i64 (D.olds.length : Nat)) ∧ W = w' := by
  have c0 := h.c0
  go_enter Tryd.func45, Tryd.ntmps45
  go_wp2
  go_ret
  exact ⟨rfl, rfl⟩

set_option maxRecDepth 100000 in
set_option maxHeartbeats 1000000 in
theorem cut_any (h : IsDisk W b g bm D) : Calls Tryd.prog 26 #[.pointer (some ⟨b, 0, none⟩)] W fun e w' => e = .returned (.tuple #[]) ∧ IsDisk w' b g bm (cut D) ∧ Kp (Foot b g bm) W w' := by
  have c3 := h.c3
  have f3 := h.free 3
  go_enter Tryd.func26, Tryd.ntmps26
  go_wp2
  go_end0
  exact ⟨rfl, h.setOff true, (Kp.refl _ _).setCell (.inl rfl) _⟩

set_option maxRecDepth 100000 in
set_option maxHeartbeats 1000000 in
theorem fuse_any (h : IsDisk W b g bm D) (n : Int) (hn : n ≤ 9223372036854775807) : Calls Tryd.prog 38 #[.pointer (some ⟨b, 0, none⟩), .int .i64 n] W fun e w' => e = .returned (.tuple #[]) ∧ IsDisk w' b g bm (setFuse D n) ∧ Kp (Foot b g bm) W w' := by
  have c2 := h.c2
  have f2 := h.free 2
  have hs := h.setFuse n.toNat (by omega)
  have hk := (Kp.refl (Foot b g bm) W).setCell (p := ⟨b, 2, none⟩) (.inl rfl) (.int .i64 (n.toNat : Nat))
  have e : ((n.toNat : Nat) : Int) = if 0 > n then 0 else n := by split <;> omega
  rw [e] at hs hk
  have HS := Lib.hid hs
  have HK := Lib.hid hk
  clear hs hk e
  by_cases h0 : 0 > n
  all_goals
    go_enter Tryd.func38, Tryd.ntmps38
    go_wp2
    go_end0
    first
      | (have a := HS.out; have b := HK.out; rw [if_pos h0] at a b; exact ⟨rfl, a, b⟩)
      | (have a := HS.out; have b := HK.out; rw [if_neg (by omega)] at a b; exact ⟨rfl, a, b⟩)

set_option maxRecDepth 100000 in
set_option maxHeartbeats 1000000 in
theorem within_any (h : IsDisk W b g bm D) (i : Int) : Calls Tryd.prog 59 #[.pointer (some ⟨b, 0, none⟩), .int .i64 i] W fun e w' => e = .returned (.int .i64 (within D i)) ∧ W = w' := by
  have c0 := h.c0
  have c3 := h.c3
  cases ho : D.off with
  | true =>
    rw [ho] at c3
    have HW := Lib.hid (within_off (i := i) ho)
    clear ho
    go_enter Tryd.func59, Tryd.ntmps59
    go_wp2
    go_ret
    exact ⟨by rw [HW.out]; rfl, rfl⟩
  | false =>
    rw [ho] at c3
    by_cases h1 : i < 0
    · have HW := Lib.hid (within_out (i := i) ho (.inl h1))
      clear ho
      go_enter Tryd.func59, Tryd.ntmps59
      go_wp2
      go_ret
      exact ⟨by rw [HW.out]; rfl, rfl⟩
    · by_cases h2 : (D.olds.length : Int) ≤ i
      · have HW := Lib.hid (within_out (i := i) ho (.inr h2))
        clear ho
        go_enter Tryd.func59, Tryd.ntmps59
        go_wp2
        go_ret
        exact ⟨by rw [HW.out]; rfl, rfl⟩
      · have HW := Lib.hid (within_some (i := i) ho (by omega) (by omega))
        clear ho
        go_enter Tryd.func59, Tryd.ntmps59
        go_wp2
        go_ret
        exact ⟨by rw [HW.out]; rfl, rfl⟩
end

theorem new_none (n : Int) (h : n < 1 ∨ 4096 < n) (W : World) : Calls Tryd.prog 11 #[.int .i64 n] W fun e w' => e = .returned (.pointer none) ∧ W = w' := by
  by_cases h1 : n < 1
  · go_enter Tryd.func11, Tryd.ntmps11
    go_wp2
    go_ret
    exact ⟨rfl, rfl⟩
  · have h2 : 4096 < n := by omega
    go_enter Tryd.func11, Tryd.ntmps11
    go_wp2
    go_ret
    exact ⟨rfl, rfl⟩

theorem wpList_make_exact {P : Program} {w : World} {ops : Array Oper} {rest : List Oper} {o : Oper} {a : Act} {Q : Exit → Act → World → Prop} (hg : o.guard = none) (l c : Operand) (t e : TypeId) (hop : o.op = Op.makeSlice t l c) (z : Value) (sz by_ : Nat)
    (ht : P.underlying t = some (.slice e)) (hi : (P.info? e).map (fun i => (i.zero, i.size, i.bytes)) = some (some z, sz, by_)) (n : Nat) (hl : a.eval l = .int .i64 n) (hc : a.eval c = .int .i64 n) (hb : by_ * n ≤ 281474976710656) (hn : n ≤ 9223372036854775807)
    (h : wpList P ops Q rest (a.put o.dst (.slice (some ⟨w.heap.size, 0, none⟩) n n)) (w.alloc (.cells (madeCells z.cells (n * sz)) e))) : wpList P ops Q (o :: rest) a w := by
  refine wpList_plain hg fun K hK => ?_
  cases hq : P.info? e with
  | none => simp [hq] at hi
  | some i =>
    simp only [hq, Option.map_some, Option.some.injEq, Prod.mk.injEq] at hi
    obtain ⟨h1, rfl, rfl⟩ := hi
    have hrun := run_make (P := P) w t e i z ht hq h1 .i64 .i64 n n (by omega) (Int.le_refl _) (by rw [← Int.natCast_mul]; omega) (by omega)
    simp only [Int.toNat_natCast] at hrun
    unfold Oper.wp
    simp [execOp, hop, hl, hc, hrun, Result.andThen]
    exact hK _ _ h

theorem zeros_cells (n j : Nat) (h : j < n) : (Lib.byteCells (zeros n))[j]? = some (.int .u8 0) := by
  simp [Lib.byteCells, zeros, h]
theorem flat_zeros (n : Nat) : (List.replicate n (zeros 64)).flatten = zeros (n * 64) := by
  induction n with
  | zero => rfl
  | succ n ih => rw [List.replicate_succ, List.flatten_cons, ih, zeros, zeros, zeros, List.replicate_append_replicate]; congr 1; omega
theorem made_zeros (n : Nat) : madeCells (Lib.byteCells (zeros 64)).toArray (n * 64) = (Lib.byteCells (List.replicate n (zeros 64)).flatten).toArray := by
  rw [flat_zeros]
  apply Array.ext_getElem?
  intro j
  by_cases hj : j < n * 64
  · rw [show (Lib.byteCells (zeros (n * 64))).toArray[j]? = some (.int .u8 0) from by rw [List.getElem?_toArray, zeros_cells _ _ hj]]
    have h2 : (Lib.byteCells (zeros 64)).toArray[j % 64]? = some (.int .u8 0) := by rw [List.getElem?_toArray, zeros_cells _ _ (by omega)]
    have h3 : (Lib.byteCells (zeros 64)).toArray.size = 64 := by simp [Lib.byteCells, zeros]
    unfold madeCells
    rw [Array.getElem?_map, Array.getElem?_range, if_pos hj]
    simp only [Option.map_some, h3]
    rw [Array.getElem!_eq_getD, Array.getD_eq_getD_getElem?, h2]; rfl
  · rw [Array.getElem?_eq_none (by simp [size_madeCells]; omega), Array.getElem?_eq_none (by simp [Lib.byteCells, zeros]; omega)]

theorem info_sector : (Tryd.prog.info? 114).map (fun i => (i.zero, i.size, i.bytes)) = some (some (.agg (Lib.byteCells (zeros 64)).toArray), 64, 64) := by kernel_rfl

set_option maxRecDepth 100000 in
set_option maxHeartbeats 1000000 in
theorem new_some (n : Nat) (h1 : 1 ≤ n) (h2 : n ≤ 4096) (W : World) : Calls Tryd.prog 11 #[.int .i64 n] W fun e w' => e = .returned (.pointer (some ⟨W.heap.size + 2, 0, none⟩)) ∧
    IsDisk w' (W.heap.size + 2) W.heap.size (W.heap.size + 1) (new n) ∧ Below W.heap.size W w' := by
  have hmm := @run_makeMap Tryd.prog
  go_enter Tryd.func11, Tryd.ntmps11
  go_wp2_with (at_make; refine wpList_make_exact rfl _ _ 78 114 rfl (.agg (Lib.byteCells (zeros 64)).toArray) 64 64 Tryd.underlying78 info_sector n rfl rfl ?_ ?_ ?_)
  all_goals first | omega | skip
  rw [made_zeros]
  go_ret
  generalize hO : (Obj.cells (Lib.byteCells (List.replicate n (zeros 64)).flatten).toArray 114) = O1
  have s1 : (W.alloc O1).heap.size = W.heap.size + 1 := by simp
  have s2 : ((W.alloc O1).alloc (.map #[] 0)).heap.size = W.heap.size + 2 := by simp
  have el : (new n).olds.length = n := by simp [new]
  refine ⟨rfl, ⟨new_ok h1 h2, ?_, ?_, ?_⟩, (((Below.refl _ W).alloc (Nat.le_refl _) _).alloc (by simp) _).alloc (by simp; omega) _⟩
  · have := heap_alloc_new ((W.alloc O1).alloc (.map #[] 0)) (Obj.cells #[Value.slice (some { block := W.heap.size, off := 0 }) n n, Value.map (some (W.heap.size + 1)), Value.int IntKind.i64 0, Value.bool false] 81)
    rw [s2] at this
    rw [this, el]; rfl
  · rw [Below.heap_alloc _ _ _ (by omega), Below.heap_alloc _ _ _ (by omega), Go.heap_alloc_new, ← hO]; rfl
  · have := ((World.ownsMap_made (W.alloc O1) Tryd.prog 3 secElem).alloc (Obj.cells #[Value.slice (some { block := W.heap.size, off := 0 }) n n, Value.map (some (W.heap.size + 1)), Value.int IntKind.i64 0, Value.bool false] 81))
    rw [s1] at this
    have hd : datum (new n).news = .map [] := by
      have := datum_none (new n).news
      rwa [show (new n).news.map (fun _ => none) = (new n).news from by simp [new]] at this
    rw [hd]
    exact this
end Go.Proofs.YtoafebndlldclaaDoor.Dk

namespace Go.Proofs.YtoafebndlldclaaDoor.Dk
open Go Go.RowKit Go.ChangeMaps Go.MapKept

theorem setRow_alloc (w : World) (zs cs : Array Value) (t : TypeId) : (w.alloc (.cells zs t)).setRow w.heap.size cs = w.alloc (.cells cs t) := by
  unfold World.setRow World.alloc
  congr 1
  apply Array.ext_getElem?
  intro k
  rw [Array.getElem?_modify]
  by_cases hk : w.heap.size = k
  · subst hk; simp
  · rw [if_neg hk]
    simp only [Array.getElem?_push]
    rw [if_neg (fun e => hk e.symm), if_neg (fun e => hk e.symm)]

theorem splice_whole {α : Type} (L cs : List α) (h : L.length = cs.length) : splice L 0 cs = cs := by
  simp [splice, ← h]

section
variable {P : Program} {w : World} {ops : Array Oper} {rest : List Oper} {o : Oper} {a : Act} {Q : Exit → Act → World → Prop}
/-- an array is written over a block of its own -/
theorem wpList_store_new (hgd : o.guard = none) (ty : TypeId) (x y : Operand) (ho : o.op = .store ty x y) (v : World) (cur : List Value) (t : TypeId) (hw : w = v.alloc (.cells cur.toArray t)) (hx : a.eval x = .pointer (some ⟨v.heap.size, 0, none⟩)) (cs : List Value) (hy : a.eval y = .agg cs.toArray)
    (hl : cur.length = cs.length) (h1 : ∀ u ∈ cs, u.oneCell' = true) (hi : (P.info? ty).map (·.size) = some cs.length)
    (h : wpList P ops Q rest (a.put o.dst undef) (v.alloc (.cells cs.toArray t))) : wpList P ops Q (o :: rest) a w := by
  subst hw
  refine wpList_store_part hgd ty x y ho v.heap.size 0 hx cs hy t cur.toArray (Go.heap_alloc_new _ _) (by simp; omega) h1 hi ?_
  rw [show (splice cur.toArray.toList 0 cs) = cs from splice_whole _ _ (by simpa using hl), setRow_alloc]
  exact h

/-- 'x, is := d.dirty[i]' -/
theorem wpList_lookup_disk_ok (hg : o.guard = none) (m x : Operand) (t k e : TypeId) (hop : o.op = Op.lookup t m x true) (K : Maps.Keyed P k) (ht : P.underlying t = some (.map k e)) (hki : P.underlying k = some (.int .i64)) (hz : (zeroValue e).run P w = .ok (.agg (Lib.byteCells (zeros 64)).toArray) w) (bm n : Nat) (news : List (Option Bs))
    (hm : a.eval m = .map (some bm)) (hown : w.ownsMap P k secElem bm n (datum news)) (i : Nat) (hi : i ≤ 9223372036854775807) (hx : a.eval x = .int .i64 i)
    (y : Option Bs) (z : Bs) (hy : news.getD i none = y) (hyz : y.getD (zeros 64) = z)
    (hK : wpList P ops Q rest (a.put o.dst (.tuple #[.agg (Lib.byteCells z).toArray, .bool y.isSome])) w) :
    wpList P ops Q (o :: rest) a w := by
  refine wpList_lookup_own_ok w hg m x t hop k e K ht secElem hz (.lit (.string (zeros 64))) [] (secElem_mk (zeros_length 64)) bm n (datum news) hm hown _ (.int .i64 i) hx (Maps.keyOf_int_mk hki (WalkArith.wf_i64 (by omega))) ?_
  intro v ps hv
  rw [datum_has, hy]
  obtain ⟨l, hl, rfl, h2⟩ := secElem_inv hv
  rw [datum_at] at h2
  have : l = z := by
    rw [← hyz, ← hy, List.getD_eq_getElem?_getD]
    cases hn : news[i]? with
    | none => rw [hn] at h2; simp at h2; simp [h2.1]
    | some y => cases y with
      | none => rw [hn] at h2; simp at h2; simp [h2.1]
      | some s => rw [hn] at h2; simp at h2; simp [h2.1]
  rw [this]
  exact hK
end

theorem zero_sector (w : World) : (zeroValue 114).run Tryd.prog w = .ok (.agg (Lib.byteCells (zeros 64)).toArray) w := by kernel_rfl
theorem zero_info : (Tryd.prog.info? 114).bind (·.zero) = some (.agg (Lib.byteCells (zeros 64)).toArray) := by kernel_rfl
theorem size_info : (Tryd.prog.info? 114).map (·.size) = some 64 := by kernel_rfl
theorem conv_back (l : Bs) (b cap : Nat) (w : World) (hc : ∀ j v, (Lib.byteCells l)[j]? = some v → w.cell? ⟨b, j, none⟩ = some v) : (convert 34 9 (.slice (some ⟨b, 0, none⟩) l.length cap)).run Tryd.prog w = .ok (.string ⟨l.toArray⟩) w := by
  refine run_convert_bytes_back _ 34 9 5 ⟨b, 0, none⟩ cap l (by kernel_rfl) (by kernel_rfl) (by kernel_rfl) (fun j hj => ?_)
  rw [show (⟨b, 0, none⟩ : Addr).add j = ⟨b, j, none⟩ from by unfold Addr.add; split <;> simp_all]
  exact hc j _ (by simp [Lib.byteCells, List.getElem?_eq_getElem hj])

variable {W : World} {b g bm : Nat} {D : DS}

set_option maxRecDepth 100000 in
set_option maxHeartbeats 1000000 in
theorem read_no (h : IsDisk W b g bm D) (i : Int) (hn : within D i ≠ 0) : Calls Tryd.prog 35 #[.pointer (some ⟨b, 0, none⟩), .int .i64 i] W fun e w' => e = .returned (.tuple #[.string ⟨#[]⟩, .int .i64 (within D i)]) ∧ W = w' := by
  have HC := Lib.hid (within_any h i)
  obtain ⟨x, hx⟩ : ∃ x, x = within D i := ⟨_, rfl⟩
  rw [← hx] at hn HC ⊢
  have ht : (x != 0) = true := by rw [bne_iff_ne]; exact hn
  clear hx hn
  go_enter Tryd.func35, Tryd.ntmps35
  go_wp2_with (go_at_call 59; refine HC.out.mono ?_; rintro e w' ⟨rfl, rfl⟩)
  go_ret2
  exact ⟨rfl, rfl⟩

theorem in_range {D : DS} (hk : D.Ok) {i : Nat} (h : i < D.olds.length) : i ≤ 9223372036854775807 := by have := hk.hi; omega

set_option maxRecDepth 100000 in
set_option maxHeartbeats 1000000 in
theorem read_new (h : IsDisk W b g bm D) (i : Nat) (h0 : within D i = 0) (s : Bs) (hs : D.news.getD i none = some s) (hl : s.length = 64) (hi : i ≤ 9223372036854775807) : Calls Tryd.prog 35 #[.pointer (some ⟨b, 0, none⟩), .int .i64 i] W fun e w' => e = .returned (.tuple #[.string ⟨s.toArray⟩, .int .i64 0]) ∧ Below W.heap.size W w' := by
  have hw := within_any h i
  rw [h0] at hw
  have HC := Lib.hid hw
  have HS := Lib.hid hs
  have HL := Lib.hid hl
  have hmap := h.map
  have c1 := h.c1
  have hcv := conv_back s W.heap.size 64 (W.alloc (.cells (Lib.byteCells s).toArray 114)) (fun j v hv => by rw [World.cell?_alloc_at _ _ _ _ rfl]; simpa using hv)
  rw [hl] at hcv
  clear hw h h0 hs hl
  go_enter Tryd.func35, Tryd.ntmps35
  go_wp2_with (first
    | (go_at_call 59; refine HC.out.mono ?_; rintro e w' ⟨rfl, rfl⟩)
    | (at_lookup; refine wpList_lookup_disk_ok rfl _ _ 79 3 114 rfl (Maps.int_keyed Tryd.underlying3) Tryd.underlying79 Tryd.underlying3 (zero_sector _) bm _ D.news rfl hmap i hi rfl (some s) s HS.out rfl ?_)
    | (refine wpList_alloc_agg rfl 114 rfl _ zero_info ?_)
    | (refine wpList_store_new rfl 114 _ _ rfl W (Lib.byteCells (zeros 64)) 114 rfl rfl (Lib.byteCells s) rfl (by rw [Lib.byteCells_length, Lib.byteCells_length, HL.out, zeros_length]) (Lib.byteCells_one _) (by rw [Lib.byteCells_length, HL.out]; exact size_info) ?_))
  go_ret2
  exact ⟨rfl, (Below.refl _ W).alloc (Nat.le_refl _) _⟩

set_option maxRecDepth 100000 in
set_option maxHeartbeats 1000000 in
theorem read_old (h : IsDisk W b g bm D) (i : Nat) (h0 : within D i = 0) (s : Bs) (hs : D.news.getD i none = none) (ho : D.olds[i]? = some s) (hi : i ≤ 9223372036854775807) : Calls Tryd.prog 35 #[.pointer (some ⟨b, 0, none⟩), .int .i64 i] W fun e w' => e = .returned (.tuple #[.string ⟨s.toArray⟩, .int .i64 0]) ∧ Below W.heap.size W w' := by
  have hw := within_any h i
  rw [h0] at hw
  have hl : s.length = 64 := h.ok.old s (List.mem_of_getElem? ho)
  have hlt : i < D.olds.length := (List.getElem?_eq_some_iff.1 ho).1
  have hlt2 : (i : Int) < (D.olds.length : Int) := by omega
  have HC := Lib.hid hw
  have HS := Lib.hid hs
  have HL := Lib.hid hl
  have HRC := Lib.hid (cells_flat h.ok.old ho)
  have hmap := h.map
  have c0 := h.c0
  have c1 := h.c1
  have c0' : (W.alloc (.cells (Lib.byteCells (zeros 64)).toArray 114)).cell? ⟨b, 0, none⟩ = some (.slice (some ⟨g, 0, none⟩) D.olds.length D.olds.length) := (h.alloc _).c0
  have HR := Lib.hid (h.alloc (.cells (Lib.byteCells (zeros 64)).toArray 114)).row
  have hcv := conv_back s W.heap.size 64 (W.alloc (.cells (Lib.byteCells s).toArray 114)) (fun j v hv => by rw [World.cell?_alloc_at _ _ _ _ rfl]; simpa using hv)
  rw [hl] at hcv
  clear hw h h0 hs hl ho
  go_enter Tryd.func35, Tryd.ntmps35
  go_wp2_with (first
    | (go_at_call 59; refine HC.out.mono ?_; rintro e w' ⟨rfl, rfl⟩)
    | (at_lookup; refine wpList_lookup_disk_ok rfl _ _ 79 3 114 rfl (Maps.int_keyed Tryd.underlying3) Tryd.underlying79 Tryd.underlying3 (zero_sector _) bm _ D.news rfl hmap i hi rfl none (zeros 64) HS.out rfl ?_)
    | (refine wpList_alloc_agg rfl 114 rfl _ zero_info ?_)
    | (refine wpList_store_new rfl 114 _ _ rfl W (Lib.byteCells (zeros 64)) 114 rfl rfl (Lib.byteCells (zeros 64)) rfl rfl (Lib.byteCells_one _) size_info ?_)
    | (refine wpList_load_part rfl 114 _ rfl g (i * 64) rfl 114 _ _ _ (Lib.byteCells s) HR.out HRC.out Tryd.underlying114 rfl (by rw [Lib.byteCells_length, HL.out]; exact size_info) ?_)
    | (refine wpList_store_new rfl 114 _ _ rfl W (Lib.byteCells (zeros 64)) 114 rfl rfl (Lib.byteCells s) rfl (by rw [Lib.byteCells_length, Lib.byteCells_length, HL.out, zeros_length]) (Lib.byteCells_one _) (by rw [Lib.byteCells_length, HL.out]; exact size_info) ?_))
  go_ret2
  exact ⟨rfl, (Below.refl _ W).alloc (Nat.le_refl _) _⟩

theorem read_any (h : IsDisk W b g bm D) (i : Int) : Calls Tryd.prog 35 #[.pointer (some ⟨b, 0, none⟩), .int .i64 i] W fun e w' => e = .returned (.tuple #[.string ⟨(read D i).1.toArray⟩, .int .i64 (read D i).2]) ∧ Below W.heap.size W w' := by
  unfold read
  by_cases h0 : within D i = 0
  · rw [if_neg (by simpa using h0)]
    obtain ⟨h1, h2, h3⟩ := within_zero h0
    obtain ⟨k, rfl⟩ := Int.eq_ofNat_of_zero_le h2
    have hk : k < D.olds.length := by omega
    have hi := in_range h.ok hk
    rw [Int.toNat_natCast]
    unfold sect
    cases hn : D.news.getD k none with
    | none =>
      have ho : D.olds[k]? = some (D.olds.getD k []) := by rw [List.getD_eq_getElem?_getD, List.getElem?_eq_getElem hk]; rfl
      exact read_old h k h0 _ hn ho hi
    | some s =>
      refine read_new h k h0 s hn (h.ok.new s ?_) hi
      rw [List.getD_eq_getElem?_getD] at hn
      cases hx : D.news[k]? with
      | none => rw [hx] at hn; cases hn
      | some y => rw [hx] at hn; cases hn; exact List.mem_of_getElem? hx
  · rw [if_pos h0]
    refine (read_no h i h0).mono ?_
    rintro e w' ⟨rfl, rfl⟩
    exact ⟨rfl, Below.refl _ _⟩

set_option maxRecDepth 100000 in
set_option maxHeartbeats 1000000 in
theorem put_any (h : IsDisk W b g bm D) (i : Nat) (hi : i < D.olds.length) (x : Bs) (hx : x.length = 64) (xb db ib : Nat) (hxb : W.heap[xb]? = some (.cells (Lib.byteCells x).toArray 114 (0, 0))) (hdb : W.cell? ⟨db, 0, none⟩ = some (.pointer (some ⟨b, 0, none⟩))) (hib : W.cell? ⟨ib, 0, none⟩ = some (.int .i64 i)) :
    Calls Tryd.prog 70 #[.pointer (some ⟨xb, 0, none⟩), .pointer (some ⟨db, 0, none⟩), .pointer (some ⟨ib, 0, none⟩)] W fun e w' => e = .returned (.tuple #[]) ∧ IsDisk w' b g bm (put i x D) ∧ Kp (Foot b g bm) W w' := by
  have hw := in_range h.ok hi
  have c1 := h.c1
  have HX := Lib.hid hxb
  have HL := Lib.hid hx
  have HI := Lib.hid hi
  have HH := Lib.hid h
  have hmap := h.map
  have hsz : Maps.size (datum D.news) < maxLen := by
    have := datum_size D.news
    have := h.ok.len
    have := h.ok.hi
    unfold maxLen; omega
  clear h hxb hx hi
  go_enter Tryd.func70, Tryd.ntmps70
  go_wp2
  refine wp_region_still_tail 6 (by kernel_rfl) (by kernel_rfl) ?_
  simp only [List.take_succ_cons, List.take_zero, List.drop_succ_cons, List.drop_zero]
  repeat (first
    | (refine wpStill_step (fun K hK => still_load_row rfl 114 _ rfl xb 0 rfl 114 _ _ _ (Lib.byteCells x) HX.out (fun j v hv => by rw [Nat.zero_add]; simpa using hv) Tryd.underlying114 rfl (by rw [Lib.byteCells_length, HL.out]; exact size_info) (hK _ ?_)))
    | still_step)
  refine wpStill_nil ?_
  go_frame
  clear hK K
  change wpList _ _ _ _ _ W.drew
  refine wpList_mapUpdate_in _ rfl _ _ _ 79 rfl 3 114 (Maps.int_keyed Tryd.underlying3) Tryd.underlying79 secElem bm _ (datum D.news) rfl hmap.drew hsz _ _ (.int .i64 i) rfl rfl (Maps.keyOf_int_mk Tryd.underlying3 (WalkArith.wf_i64 (by omega))) (.lit (.string x)) [] (secElem_mk HL.out) ?_
  intro w1 hown1 hturn1
  have HT := Lib.hid hturn1
  have HO := Lib.hid hown1
  clear hown1 hturn1
  go_wp2
  go_end0
  have ho := HO.out
  rw [datum_put _ _ (by rw [HH.out.ok.len]; exact HI.out)] at ho
  refine ⟨rfl, HH.out.drew.turned HT.out ho (by simp [HH.out.ok.len]) ?_, (Kp.refl _ W).drew.then ((Kp.of_grown HT.out.grown (fun k e => ?_)))⟩
  · intro s hs
    rcases List.mem_or_eq_of_mem_set hs with hs | hs
    · exact HH.out.ok.new s hs
    · cases hs; exact HL.out
  · cases e; exact .inl (.inr (.inr rfl))
end Go.Proofs.YtoafebndlldclaaDoor.Dk

namespace Go.Proofs.YtoafebndlldclaaDoor.Dk
open Go Go.RowKit Go.ChangeMaps Go.MapKept
variable {W : World} {b g bm : Nat} {D : DS}

theorem setCell_two (w : World) (blk off : Nat) (v v' : Value) : (w.setCell ⟨blk, off, none⟩ v).setCell ⟨blk, off, none⟩ v' = w.setCell ⟨blk, off, none⟩ v' := by
  simp only [World.setCell]
  congr 1
  apply Array.ext_getElem?
  intro k
  simp only [Array.getElem?_modify]
  split
  · cases w.heap[k]? with
    | none => rfl
    | some o => cases o <;> simp
  · rfl

/-- what a deferred call to burnt comes to -/
def BurntIs (b g bm eb : Nat) (W : World) (D' : DS) (x : Int) (w' : World) : Prop := IsDisk w' b g bm D' ∧ w'.cell? ⟨eb, 0, none⟩ = some (.int .i64 x) ∧ Kp (fun k => Foot b g bm k ∨ k = eb) W w'

set_option maxRecDepth 100000 in
set_option maxHeartbeats 1000000 in
theorem burnt_err (h : IsDisk W b g bm D) (eb : Nat) (x : Int) (he : W.cell? ⟨eb, 0, none⟩ = some (.int .i64 x)) (hx : x ≠ 0) (f : Value) (u : FrameMode) :
    CallsD Tryd.prog 69 #[.pointer (some ⟨b, 0, none⟩), .pointer (some ⟨eb, 0, none⟩), f] u W fun e u' w' => u' = u ∧ (e = .returned (.tuple #[]) ∧ BurntIs b g bm eb W D x w') := by
  have ht : (x != 0) = true := by rw [bne_iff_ne]; exact hx
  have HB := Lib.hid (show BurntIs b g bm eb W D x W from ⟨h, he, Kp.refl _ _⟩)
  clear h hx
  go_enter_d Tryd.func69, Tryd.ntmps69
  go_wp2
  refine bodyPost_ret (results_none rfl _ _ _) rfl ?_
  exact ⟨rfl, HB.out⟩

set_option maxRecDepth 100000 in
set_option maxHeartbeats 1000000 in
theorem burnt_out (h : IsDisk W b g bm D) (eb : Nat) (he : W.cell? ⟨eb, 0, none⟩ = some (.int .i64 0)) (fe : W.frozen? ⟨eb, 0, none⟩ = false) (hne : ¬ Foot b g bm eb) (hf : D.fuse = 1) (f : Value) (u : FrameMode) :
    CallsD Tryd.prog 69 #[.pointer (some ⟨b, 0, none⟩), .pointer (some ⟨eb, 0, none⟩), f] u W fun e u' w' => u' = u ∧ (e = .returned (.tuple #[]) ∧ BurntIs b g bm eb W { D with fuse := 0, off := true } 180 w') := by
  have c2 := h.c2
  rw [hf] at c2
  have f2 := h.free 2
  have f3 := h.free 3
  have hbe : eb ≠ b := fun e => hne (.inl e)
  have c3 := h.c3
  have hs : IsDisk (W.setCell ⟨b, 2, none⟩ (.int .i64 0)) b g bm { D with fuse := 0 } := h.setFuse 0 (by omega)
  have c3' : (W.setCell ⟨b, 2, none⟩ (.int .i64 0)).cell? ⟨b, 3, none⟩ = some (.bool D.off) := hs.c3
  have h1 := hs.setOff true
  have h2 := h1.setCell (p := ⟨eb, 0, none⟩) hne (.int .i64 180)
  have hk := ((((Kp.refl (fun k => Foot b g bm k ∨ k = eb) W).setCell (p := ⟨b, 2, none⟩) (.inl (.inl rfl)) (.int .i64 0)).setCell (p := ⟨b, 3, none⟩) (.inl (.inl rfl)) (.bool true)).setCell (p := ⟨eb, 0, none⟩) (.inr rfl) (.int .i64 180))
  have hc : (((W.setCell ⟨b, 2, none⟩ (.int .i64 0)).setCell ⟨b, 3, none⟩ (.bool true)).setCell ⟨eb, 0, none⟩ (.int .i64 180)).cell? ⟨eb, 0, none⟩ = some (.int .i64 180) := by
    refine World.cell?_setCell_same _ _ _ (u := .int .i64 0) ?_
    rw [World.cell?_setCell_other _ _ _ _ (by simp), World.cell?_setCell_other _ _ _ _ (by simp)]; exact he
  have HB := Lib.hid (show BurntIs b g bm eb W { D with fuse := 0, off := true } 180 _ from ⟨h2, hc, hk⟩)
  have c2' : (W.setCell ⟨b, 2, none⟩ (.int .i64 0)).cell? ⟨b, 2, none⟩ = some (.int .i64 0) := World.cell?_setCell_same _ _ _ c2
  have e1 : ((W.setCell ⟨b, 2, none⟩ (.int .i64 0)).setCell ⟨b, 3, none⟩ (.bool true)).cell? ⟨eb, 0, none⟩ = some (.int .i64 0) := by
    rw [World.cell?_setCell_other _ _ _ _ (by simp), World.cell?_setCell_other _ _ _ _ (by simp)]; exact he
  clear h hf h1 h2 hk hc hne hs
  go_enter_d Tryd.func69, Tryd.ntmps69
  go_wp2
  refine bodyPost_ret (results_none rfl _ _ _) rfl ?_
  exact ⟨rfl, HB.out⟩

set_option maxRecDepth 100000 in
set_option maxHeartbeats 1000000 in
theorem burnt_do (h : IsDisk W b g bm D) (eb : Nat) (he : W.cell? ⟨eb, 0, none⟩ = some (.int .i64 0)) (hne : ¬ Foot b g bm eb) (hf : D.fuse ≠ 1) (F : DS → DS) (f : FuncId) (cap : Array Value) (hrun : ∀ w, (callFunc f cap).run Tryd.prog w = .ok (.enter f cap) w)
    (hdo : ∀ W', IsDisk W' b g bm { D with fuse := D.fuse - 1 } → Kp (Foot b g bm) W W' → Calls Tryd.prog f cap W' fun e w' => e = .returned (.tuple #[]) ∧ IsDisk w' b g bm (F { D with fuse := D.fuse - 1 }) ∧ Kp (Foot b g bm) W' w') (u : FrameMode) :
    CallsD Tryd.prog 69 #[.pointer (some ⟨b, 0, none⟩), .pointer (some ⟨eb, 0, none⟩), .func (.func f) #[] cap] u W fun e u' w' => u' = u ∧ (e = .returned (.tuple #[]) ∧ BurntIs b g bm eb W (F { D with fuse := D.fuse - 1 }) 0 w') := by
  have c2 := h.c2
  have f2 := h.free 2
  have hfu := h.ok.fuse
  have hec : ∀ w', Kp (Foot b g bm) W w' → w'.cell? ⟨eb, 0, none⟩ = some (.int .i64 0) := fun w' hk => (hk.cell (p := ⟨eb, 0, none⟩) (World.block_lt_of_cell? _ _ he) hne).trans he
  by_cases h0 : D.fuse = 0
  · have hdD : ({ D with fuse := D.fuse - 1 } : DS) = D := by rw [h0]; cases D; cases h0; rfl
    rw [hdD] at hdo ⊢
    have hW : (W.setCell ⟨b, 2, none⟩ (.int .i64 (-1))).setCell ⟨b, 2, none⟩ (.int .i64 0) = W.setCell ⟨b, 2, none⟩ (.int .i64 0) := setCell_two _ _ _ _ _
    have hi : IsDisk (W.setCell ⟨b, 2, none⟩ (.int .i64 0)) b g bm D := by
      have := h.setFuse 0 (by omega)
      rwa [show ({ D with fuse := 0 } : DS) = D from by cases D; cases h0; rfl] at this
    have hk : Kp (Foot b g bm) W (W.setCell ⟨b, 2, none⟩ (.int .i64 0)) := (Kp.refl _ W).setCell (.inl rfl) _
    have hd := hdo _ hi hk
    rw [← hW] at hd hk
    rw [h0] at c2
    have c2' : (W.setCell ⟨b, 2, none⟩ (.int .i64 (-1))).cell? ⟨b, 2, none⟩ = some (.int .i64 (-1)) := World.cell?_setCell_same _ _ _ c2
    have HD := Lib.hid hd
    have HK := Lib.hid hk
    have HE := Lib.hid hec
    clear hd hk hW hi hdo h hf h0 hdD hec
    go_enter_d Tryd.func69, Tryd.ntmps69
    go_wp2_with fail
    refine HD.out.mono ?_
    rintro e w' ⟨rfl, hi, hk⟩
    have HI := Lib.hid hi
    have HK2 := Lib.hid hk
    clear hi hk
    go_wp2
    go_end0
    exact ⟨rfl, HI.out, HE.out _ (HK.out.trans HK2.out), (HK.out.trans HK2.out).mono fun k hk => .inl hk⟩
  · have hW : (W.setCell ⟨b, 2, none⟩ (.int .i64 ((D.fuse : Int) - 1))).setCell ⟨b, 2, none⟩ (.int .i64 ((D.fuse : Int) - 1)) = W.setCell ⟨b, 2, none⟩ (.int .i64 ((D.fuse : Int) - 1)) := setCell_two _ _ _ _ _
    have hi := h.setFuse (D.fuse - 1) (by omega)
    rw [show (((D.fuse - 1 : Nat) : Int)) = (D.fuse : Int) - 1 from by omega] at hi
    have hk : Kp (Foot b g bm) W (W.setCell ⟨b, 2, none⟩ (.int .i64 ((D.fuse : Int) - 1))) := (Kp.refl _ W).setCell (.inl rfl) _
    have hd := hdo _ hi hk
    rw [← hW] at hd hk
    have c2' : (W.setCell ⟨b, 2, none⟩ (.int .i64 ((D.fuse : Int) - 1))).cell? ⟨b, 2, none⟩ = some (.int .i64 ((D.fuse : Int) - 1)) := World.cell?_setCell_same _ _ _ c2
    have ht : ((D.fuse : Int) - 1 == 0) = false := beq_eq_false_iff_ne.2 (by omega)
    have h1 : ¬ (D.fuse : Int) - 1 < 0 := by omega
    have HD := Lib.hid hd
    have HK := Lib.hid hk
    have HE := Lib.hid hec
    clear hd hk hW hi hdo h hf hec
    go_enter_d Tryd.func69, Tryd.ntmps69
    go_wp2_with fail
    refine HD.out.mono ?_
    rintro e w' ⟨rfl, hi, hk⟩
    have HI := Lib.hid hi
    have HK2 := Lib.hid hk
    clear hi hk
    go_wp2
    go_end0
    exact ⟨rfl, HI.out, HE.out _ (HK.out.trans HK2.out), (HK.out.trans HK2.out).mono fun k hk => .inl hk⟩

theorem pad_splice (s : Bs) : splice (Lib.byteCells (zeros 64)) 0 (Lib.byteCells s) = Lib.byteCells (pad s) := by
  unfold splice pad Lib.byteCells zeros
  rw [List.take_zero, List.nil_append, Nat.zero_add, List.length_map, List.map_append, ← List.map_drop, List.drop_replicate]

section
variable {P : Program} {w : World} {ops : Array Oper} {rest : List Oper} {o : Oper} {a : Act} {Q : Exit → Act → World → Prop}
/-- 'copy(x[:], s)', x a block of its own -/
theorem wpList_copy_new (hgd : o.guard = none) (d s : Operand) (dT sT : TypeId) (ho : o.op = .call { callee := .builtin .copy, args := #[d, s], argTypes := #[dT, sT] }) (elem : TypeId) (hu : P.underlying dT = some (.slice elem)) (hsz : (P.info? elem).map (·.size) = some 1)
    (v : World) (cur : List Value) (t : TypeId) (hw : w = v.alloc (.cells cur.toArray t)) (n : Nat) (hn : n = v.heap.size) (dLen dCap : Nat) (x : ByteArray) (hd : a.eval d = .slice (some ⟨n, 0, none⟩) dLen dCap) (hs : a.eval s = .string x) (m : Nat) (hm : Nat.min x.size dLen = m) (hfit : m ≤ cur.length)
    (h : wpList P ops Q rest (a.put o.dst (.int .i64 (m : Nat))) (v.alloc (.cells (splice cur 0 (Lib.byteCells (x.data.toList.take dLen))).toArray t))) : wpList P ops Q (o :: rest) a w := by
  subst hw hn
  refine wpList_copy_string hgd d s dT sT ho elem hu hsz v.heap.size 0 dLen dCap x hd hs cur.toArray t (Go.heap_alloc_new _ _) (by rw [hm]; simpa using hfit) ?_
  rw [hm, setRow_alloc]
  exact h
end

theorem byte_info : (Tryd.prog.info? 5).map (·.size) = some 1 := by kernel_rfl
theorem err_cell {w : World} {eb : Nat} {x : Int} {tmps : Array Value} (ht : tmps.getD 6 undef = .pointer (some ⟨eb, 0, none⟩)) (h : w.cell? ⟨eb, 0, none⟩ = some (.int .i64 x)) : (results Tryd.f52 tmps).run Tryd.prog w = .ok (.int .i64 x) w := by
  have ht' : tmps[6]?.getD undef = .pointer (some ⟨eb, 0, none⟩) := by simpa using ht
  simp [results, Tryd.results52, ht', go_sem, h]

set_option maxRecDepth 100000 in
set_option maxHeartbeats 2000000 in
theorem write_no (h : IsDisk W b g bm D) (i : Int) (s : ByteArray) (hn : within D i ≠ 0) : Calls Tryd.prog 52 #[.pointer (some ⟨b, 0, none⟩), .int .i64 i, .string s] W fun e w' => e = .returned (.int .i64 (within D i)) ∧ IsDisk w' b g bm D ∧ Kp (Foot b g bm) W w' := by
  have hmf : ∀ (fn : Fn) (first cap : Array Value) (w : World), (Instr.makeFunc fn first cap).run Tryd.prog w = .ok (.func fn first cap) w := fun _ _ _ _ => rfl
  have HW := Lib.hid (fun w (hw : IsDisk w b g bm D) => within_any hw i)
  obtain ⟨x, hx⟩ : ∃ x, x = within D i := ⟨_, rfl⟩
  rw [← hx] at hn HW ⊢
  have ht : (x != 0) = true := by rw [bne_iff_ne]; exact hn
  have HN := Lib.hid hn
  have HH := Lib.hid h
  clear hx hn h
  go_enter_defers Tryd.func52, Tryd.ntmps52
  go_wp2_with (first
    | (refine wpList_alloc_agg rfl 114 rfl _ zero_info ?_)
    | (go_at_call 59; refine (HW.out _ ((((HH.out.alloc _).alloc _).alloc _).alloc _)).mono ?_; rintro e w' ⟨rfl, rfl⟩))
  generalize hO : ((((W.alloc (Obj.cells #[Value.pointer (some { block := b, off := 0 })] 24)).alloc (Obj.cells #[Value.int IntKind.i64 i] 3)).alloc (Obj.cells #[Value.int IntKind.i64 x] 28)).alloc (Obj.cells (Lib.byteCells (zeros 64)).toArray 114)) = W4
  have hi : IsDisk W4 b g bm D := hO ▸ ((((HH.out.alloc _).alloc _).alloc _).alloc _)
  have hk : Kp (Foot b g bm) W W4 := hO ▸ (((((Kp.refl _ W).alloc _).alloc _).alloc _).alloc _)
  have hc : W4.cell? ⟨W.heap.size + 2, 0, none⟩ = some (.int .i64 x) := by rw [← hO]; simp [go_sem]
  rw [show W.heap.size + 1 + 1 = W.heap.size + 2 from rfl]
  refine leaves_cons (f := 69) (args := #[.pointer (some ⟨b, 0, none⟩), .pointer (some ⟨W.heap.size + 2, 0, none⟩), .func (.func 70) #[] #[.pointer (some ⟨W.heap.size + 2 + 1, 0, none⟩), .pointer (some ⟨W.heap.size, 0, none⟩), .pointer (some ⟨W.heap.size + 1, 0, none⟩)]]) (by simp) (by simp [go_sem]) ?_
  refine (burnt_err hi (W.heap.size + 2) x hc HN.out _ _).mono ?_
  rintro e u' w'' ⟨rfl, rfl, hi2, hc2, hk2⟩
  exact ⟨_, err_cell rfl hc2, rfl, hi2, hk.then (hk2.mono fun k hk => hk.imp id (fun e => by omega))⟩

set_option maxRecDepth 100000 in
set_option maxHeartbeats 2000000 in
theorem write_long (h : IsDisk W b g bm D) (i : Int) (s : ByteArray) (h0 : within D i = 0) (hs : 64 < s.size) (hs2 : s.size ≤ 9223372036854775807) : Calls Tryd.prog 52 #[.pointer (some ⟨b, 0, none⟩), .int .i64 i, .string s] W fun e w' => e = .returned (.int .i64 1) ∧ IsDisk w' b g bm D ∧ Kp (Foot b g bm) W w' := by
  have hmf : ∀ (fn : Fn) (first cap : Array Value) (w : World), (Instr.makeFunc fn first cap).run Tryd.prog w = .ok (.func fn first cap) w := fun _ _ _ _ => rfl
  have HW := Lib.hid (fun w (hw : IsDisk w b g bm D) => within_any hw i)
  rw [h0] at HW
  have hm : Nat.min s.size 64 = 64 := Nat.min_eq_right (by omega)
  have hsi : (64 : Int) < (s.size : Int) := by omega
  have HM := Lib.hid hm
  have HH := Lib.hid h
  clear h h0 hm
  go_enter_defers Tryd.func52, Tryd.ntmps52
  go_wp2_with (first
    | (refine wpList_alloc_agg rfl 114 rfl _ zero_info ?_)
    | (go_at_call 59; refine (HW.out _ ((((HH.out.alloc _).alloc _).alloc _).alloc _)).mono ?_; rintro e w' ⟨rfl, rfl⟩)
    | (refine wpList_copy_new rfl _ _ 34 9 rfl 5 Tryd.underlying34 byte_info _ (Lib.byteCells (zeros 64)) 114 rfl (W.heap.size + 1 + 1 + 1) (by simp) 64 64 s rfl rfl 64 HM.out (by rw [Lib.byteCells_length, zeros_length]; exact Nat.le_refl _) ?_))
  generalize hO : ((((W.alloc (Obj.cells #[Value.pointer (some { block := b, off := 0 })] 24)).alloc (Obj.cells #[Value.int IntKind.i64 i] 3)).alloc (Obj.cells #[Value.int IntKind.i64 1] 28)).alloc _) = W4
  have hi : IsDisk W4 b g bm D := hO ▸ ((((HH.out.alloc _).alloc _).alloc _).alloc _)
  have hk : Kp (Foot b g bm) W W4 := hO ▸ (((((Kp.refl _ W).alloc _).alloc _).alloc _).alloc _)
  have hc : W4.cell? ⟨W.heap.size + 2, 0, none⟩ = some (.int .i64 1) := by rw [← hO]; simp [go_sem]
  rw [show W.heap.size + 1 + 1 = W.heap.size + 2 from rfl]
  refine leaves_cons (f := 69) (args := #[.pointer (some ⟨b, 0, none⟩), .pointer (some ⟨W.heap.size + 2, 0, none⟩), .func (.func 70) #[] #[.pointer (some ⟨W.heap.size + 2 + 1, 0, none⟩), .pointer (some ⟨W.heap.size, 0, none⟩), .pointer (some ⟨W.heap.size + 1, 0, none⟩)]]) (by simp) (by simp [go_sem]) ?_
  refine (burnt_err hi (W.heap.size + 2) 1 hc (by decide) _ _).mono ?_
  rintro e u' w'' ⟨rfl, rfl, hi2, hc2, hk2⟩
  exact ⟨_, err_cell rfl hc2, rfl, hi2, hk.then (hk2.mono fun k hk => hk.imp id (fun e => by omega))⟩

theorem run_put (cap : Array Value) (w : World) : (callFunc 70 cap).run Tryd.prog w = .ok (.enter 70 cap) w := by
  kernel_rfl

set_option maxRecDepth 100000 in
set_option maxHeartbeats 2000000 in
theorem write_ok (h : IsDisk W b g bm D) (i : Nat) (s : ByteArray) (h0 : within D i = 0) (hs : s.size ≤ 64) : Calls Tryd.prog 52 #[.pointer (some ⟨b, 0, none⟩), .int .i64 i, .string s] W fun e w' => e = .returned (.int .i64 (burn D (put i (pad s.data.toList))).2) ∧ IsDisk w' b g bm (burn D (put i (pad s.data.toList))).1 ∧ Kp (Foot b g bm) W w' := by
  have hmf : ∀ (fn : Fn) (first cap : Array Value) (w : World), (Instr.makeFunc fn first cap).run Tryd.prog w = .ok (.func fn first cap) w := fun _ _ _ _ => rfl
  have HW := Lib.hid (fun w (hw : IsDisk w b g bm D) => within_any hw i)
  rw [h0] at HW
  have hm : Nat.min s.size 64 = s.size := Nat.min_eq_left hs
  have HM := Lib.hid hm
  have HH := Lib.hid h
  have H0 := Lib.hid h0
  clear h h0 hm
  go_enter_defers Tryd.func52, Tryd.ntmps52
  go_wp2_with (first
    | (refine wpList_alloc_agg rfl 114 rfl _ zero_info ?_)
    | (go_at_call 59; refine (HW.out _ ((((HH.out.alloc _).alloc _).alloc _).alloc _)).mono ?_; rintro e w' ⟨rfl, rfl⟩)
    | (refine wpList_copy_new rfl _ _ 34 9 rfl 5 Tryd.underlying34 byte_info _ (Lib.byteCells (zeros 64)) 114 rfl (W.heap.size + 1 + 1 + 1) (by simp) 64 64 s rfl rfl s.size HM.out (by rw [Lib.byteCells_length, zeros_length]; exact hs) ?_))
  have hsl : s.data.toList.length = s.size := by rw [Array.length_toList]; rfl
  rw [List.take_of_length_le (by rw [hsl]; exact hs), pad_splice]
  obtain ⟨X, hX⟩ : ∃ X, X = pad s.data.toList := ⟨_, rfl⟩
  rw [← hX]
  have hXl : X.length = 64 := by rw [hX]; exact pad_length (by rw [hsl]; exact hs)
  clear hX
  generalize hO : ((((W.alloc (Obj.cells #[Value.pointer (some { block := b, off := 0 })] 24)).alloc (Obj.cells #[Value.int IntKind.i64 (i : Int)] 3)).alloc (Obj.cells #[Value.int IntKind.i64 0] 28)).alloc (Obj.cells (Lib.byteCells X).toArray 114)) = W4
  have hi : IsDisk W4 b g bm D := hO ▸ ((((HH.out.alloc _).alloc _).alloc _).alloc _)
  have hk : Kp (Foot b g bm) W W4 := hO ▸ (((((Kp.refl _ W).alloc _).alloc _).alloc _).alloc _)
  have hc : W4.cell? ⟨W.heap.size + 2, 0, none⟩ = some (.int .i64 0) := by rw [← hO]; simp [go_sem]
  have hf : W4.frozen? ⟨W.heap.size + 2, 0, none⟩ = false := by rw [← hO]; simp [go_sem]
  have hcd : W4.cell? ⟨W.heap.size, 0, none⟩ = some (.pointer (some ⟨b, 0, none⟩)) := by rw [← hO]; simp [go_sem]
  have hci : W4.cell? ⟨W.heap.size + 1, 0, none⟩ = some (.int .i64 i) := by rw [← hO]; simp [go_sem]
  have hcx : W4.heap[W.heap.size + 3]? = some (.cells (Lib.byteCells X).toArray 114 (0, 0)) := by
    rw [← hO]
    have := Go.heap_alloc_new (((W.alloc (Obj.cells #[Value.pointer (some { block := b, off := 0 })] 24)).alloc (Obj.cells #[Value.int IntKind.i64 (i : Int)] 3)).alloc (Obj.cells #[Value.int IntKind.i64 0] 28)) (Obj.cells (Lib.byteCells X).toArray 114)
    simpa using this
  have hsz : W4.heap.size = W.heap.size + 4 := by rw [← hO]; simp
  have hlt := fun k (hk : Foot b g bm k) => HH.out.lt hk
  have hne : ∀ j, ¬ Foot b g bm (W.heap.size + j) := fun j hj => by have := hlt _ hj; omega
  rw [show W.heap.size + 1 + 1 = W.heap.size + 2 from rfl]
  refine leaves_cons (f := 69) (args := #[.pointer (some ⟨b, 0, none⟩), .pointer (some ⟨W.heap.size + 2, 0, none⟩), .func (.func 70) #[] #[.pointer (some ⟨W.heap.size + 2 + 1, 0, none⟩), .pointer (some ⟨W.heap.size, 0, none⟩), .pointer (some ⟨W.heap.size + 1, 0, none⟩)]]) (by simp) (by simp [go_sem]) ?_
  unfold burn
  by_cases hfu : D.fuse = 1
  · rw [if_pos hfu]
    refine (burnt_out hi (W.heap.size + 2) hc hf (hne 2) hfu _ _).mono ?_
    rintro e u' w'' ⟨rfl, rfl, hi2, hc2, hk2⟩
    exact ⟨_, err_cell rfl hc2, rfl, hi2, hk.then (hk2.mono fun k hk => hk.imp id (fun e => by omega))⟩
  · rw [if_neg hfu]
    obtain ⟨_, _, hlt2⟩ := within_zero H0.out
    refine (burnt_do hi (W.heap.size + 2) hc (hne 2) hfu (put i X) _ _ (run_put _) (fun W' hi' hk' => ?_) _).mono ?_
    · refine put_any hi' i (by simpa using hlt2) X hXl _ _ _ ?_ ?_ ?_
      · exact (hk'.block _ (by omega) (hne 3)).trans hcx
      · exact (hk'.cell (p := ⟨W.heap.size, 0, none⟩) (by show W.heap.size < _; omega) (hne 0)).trans hcd
      · exact (hk'.cell (p := ⟨W.heap.size + 1, 0, none⟩) (by show W.heap.size + 1 < _; omega) (hne 1)).trans hci
    · rintro e u' w'' ⟨rfl, rfl, hi2, hc2, hk2⟩
      exact ⟨_, err_cell rfl hc2, rfl, hi2, hk.then (hk2.mono fun k hk => hk.imp id (fun e => by omega))⟩

theorem write_any (h : IsDisk W b g bm D) (i : Int) (s : ByteArray) (hs : s.size ≤ 9223372036854775807) : Calls Tryd.prog 52 #[.pointer (some ⟨b, 0, none⟩), .int .i64 i, .string s] W fun e w' => e = .returned (.int .i64 (write D i s.data.toList).2) ∧ IsDisk w' b g bm (write D i s.data.toList).1 ∧ Kp (Foot b g bm) W w' := by
  have hsl : s.data.toList.length = s.size := by rw [Array.length_toList]; rfl
  unfold write
  by_cases h0 : within D i = 0
  · rw [if_neg (by simpa using h0)]
    by_cases hl : 64 < s.size
    · rw [hsl, if_pos hl]
      exact write_long h i s h0 hl hs
    · rw [hsl, if_neg hl]
      obtain ⟨k, rfl⟩ := Int.eq_ofNat_of_zero_le (within_zero h0).2.1
      exact write_ok h k s h0 (by omega)
  · rw [if_pos h0]
    exact write_no h i s h0
end Go.Proofs.YtoafebndlldclaaDoor.Dk

namespace Go.Proofs.YtoafebndlldclaaDoor.Dk
open Go Go.RowKit Go.ChangeMaps Go.MapKept
variable {W : World} {b g bm : Nat} {D : DS}

section
variable {P : Program} {w : World} {ops : Array Oper} {rest : List Oper} {o : Oper} {a : Act} {Q : Exit → Act → World → Prop}
/-- a round of a range over what was written -/
theorem wpList_next_disk (hg : o.guard = none) (it : Operand) (hop : o.op = Op.next it false) (k : TypeId) (K : Maps.Keyed P k) (hk : P.underlying k = some (.int .i64)) (bm r n : Nat) (news : List (Option Bs)) (left : Lit → Bool) (cnt : Nat)
    (hit : a.eval it = .pointer (some ⟨r, 0, none⟩)) (h : w.ranges P k secElem bm r n (datum news) left cnt)
    (hDone : cnt = 0 → (∀ kl, left kl = false) → wpList P ops Q rest (a.put o.dst (.tuple #[.bool false])) w)
    (hMore : ∀ (i : Nat) (c : Bs) (w' : World) (cnt' : Nat), c.length = 64 → news[i]? = some (some c) → left (.int .i64 i) = true → w'.ranges P k secElem bm r n (datum news) (fun z => left z && !z.sameKey (.int .i64 i)) cnt' → cnt' < cnt → w.grownBy w' (some r) → w'.heap.size = w.heap.size →
      (Instr.entry (.pointer (some ⟨r, 0, none⟩))).run P w' = .ok (.tuple #[.int .i64 i, .agg (Lib.byteCells c).toArray]) w' → wpList P ops Q rest (a.put o.dst (.tuple #[.bool true, .int .i64 i, .agg (Lib.byteCells c).toArray])) w') :
    wpList P ops Q (o :: rest) a w := by
  refine wpList_next_ranges w hg it hop k K secElem (Value.int .i64) (fun l : Bs => .agg (Lib.byteCells l).toArray) (fun key kl hkey => by obtain ⟨x, rfl, _⟩ := Maps.keyOf_int_inv hk hkey; exact ⟨x, rfl⟩)
    (fun v y hv => by obtain ⟨c, _, rfl, _⟩ := secElem_inv hv; exact ⟨c, rfl⟩) bm r n _ left cnt hit h hDone ?_
  intro x c kl y w' cnt' hkey hlk hv hat hrg hlt hgr hsz hen
  obtain ⟨x', ex, rfl, _⟩ := Maps.keyOf_int_inv hk hkey
  cases ex
  obtain ⟨c', hc, ec, rfl⟩ := secElem_inv hv
  obtain rfl := agg_inj ec
  obtain ⟨i, rfl, hi⟩ := datum_hit hat
  exact hMore i c w' cnt' hc hi hlk hrg hlt hgr hsz hen
end

/-- the rows, as far as they are settled -/
structure Settled (D : DS) (left : Lit → Bool) (rows : List Bs) : Prop where
  len : rows.length = D.olds.length
  at_ : ∀ i, i < rows.length → rows[i]? = some (if left (.int .i64 i) = true then D.olds.getD i [] else sect D i)

theorem Settled.start (D : DS) : Settled D (Maps.has (datum D.news)) D.olds := by
  refine ⟨rfl, fun i hi => ?_⟩
  rw [datum_has, List.getElem?_eq_getElem hi]
  have e : D.olds.getD i [] = D.olds[i] := by rw [List.getD_eq_getElem?_getD, List.getElem?_eq_getElem hi]; rfl
  unfold sect
  rw [e]
  cases D.news.getD i none <;> simp [laid]

theorem Settled.step {D : DS} {left : Lit → Bool} {rows : List Bs} (h : Settled D left rows) {i : Nat} {c : Bs} (hi : D.news[i]? = some (some c)) : Settled D (fun z => left z && !z.sameKey (.int .i64 i)) (rows.set i c) := by
  refine ⟨by simp [h.len], fun j hj => ?_⟩
  rw [List.length_set] at hj
  rw [List.getElem?_set, sameKey_int]
  by_cases e : i = j
  · subst e
    rw [if_pos rfl, if_pos hj]
    simp [sect, laid, List.getD_eq_getElem?_getD, hi]
  · rw [if_neg e, h.at_ j hj]
    have : ((j : Int) = (i : Int)) = False := by simp; omega
    simp [this]

theorem Settled.done {D : DS} (hD : D.Ok) {left : Lit → Bool} {rows : List Bs} (h : Settled D left rows) (hl : ∀ kl, left kl = false) : rows = (settle D).olds := by
  apply List.ext_getElem?
  intro i
  by_cases hi : i < rows.length
  · rw [h.at_ i hi, hl]
    have h1 : i < D.olds.length := by rw [← h.len]; exact hi
    have h2 : i < D.news.length := by rw [hD.len]; exact h1
    simp [settle, sect, List.getElem?_zipWith, List.getD_eq_getElem?_getD, List.getElem?_eq_getElem h1, List.getElem?_eq_getElem h2]
  · rw [List.getElem?_eq_none (by omega), List.getElem?_eq_none (by simp [settle, hD.len]; rw [← h.len]; omega)]

def SyncInv (b g bm r : Nat) (D : DS) (W wr : World) : Prop := ∃ (left : Lit → Bool) (cnt : Nat) (rows : List Bs), wr.ranges Tryd.prog 3 secElem bm r (Maps.size (datum D.news)) (datum D.news) left cnt ∧ IsDisk wr b g bm { D with olds := rows } ∧ Settled D left rows ∧ Kp (Foot b g bm) W wr

set_option maxRecDepth 100000 in
set_option maxHeartbeats 2000000 in
theorem settle_any (h : IsDisk W b g bm D) (db : Nat) (hdb : W.cell? ⟨db, 0, none⟩ = some (.pointer (some ⟨b, 0, none⟩))) (hne : ¬ Foot b g bm db) :
    Calls Tryd.prog 71 #[.pointer (some ⟨db, 0, none⟩)] W fun e w' => e = .returned (.tuple #[]) ∧ IsDisk w' b g bm (settle D) ∧ Kp (Foot b g bm) W w' := by
  have c1 := h.c1
  have hmap := h.map
  have hdl := World.block_lt_of_cell? _ _ hdb
  have HH := Lib.hid h
  have HLT := Lib.hid (fun k (hk : Foot b g bm k) => h.lt hk)
  have HDB := Lib.hid hdb
  clear h
  go_enter Tryd.func71, Tryd.ntmps71
  go_wp2_with (at_range; refine wpList_range_own _ rfl _ 79 rfl 3 114 (Maps.int_keyed Tryd.underlying3) Tryd.underlying79 secElem bm _ _ rfl hmap ?_; intro w0 hrg0 hg0 hs0)
  try go_frame
  obtain ⟨r, hr⟩ : ∃ r, r = W.heap.size := ⟨_, rfl⟩
  rw [← hr] at hrg0 hs0 ⊢
  have HR := Lib.hid hr
  have HS0 := Lib.hid hs0
  clear hr hs0 hdb c1 hmap
  go_loopw [1, 2] (fun _ _ wr => SyncInv b g bm r D W wr)
    (fun _ _ wr => wr.rangeLeft bm r)
  case atStart =>
    have hk0 : Kp (Foot b g bm) W w0 := Kp.of_grown hg0 (fun k e => by cases e)
    exact ⟨_, _, D.olds, hrg0, HH.out.same hk0.size (fun k hk => hg0.block k (HLT.out k hk) (by simp)), Settled.start D, hk0⟩
  case round =>
    obtain ⟨left, cnt, rows, hrg, hid, hst, hkp⟩ := hrel
    have HID := Lib.hid hid
    have HST := Lib.hid hst
    have HKP := Lib.hid hkp
    clear hid hst hkp
    go_wp2_with (at_next; refine wpList_next_disk rfl _ rfl 3 (Maps.int_keyed Tryd.underlying3) Tryd.underlying3 bm r _ D.news _ _ rfl hrg ?_ ?_)
    · intro hc0 hl0
      have cd : wr.cell? ⟨db, 0, none⟩ = some (.pointer (some ⟨b, 0, none⟩)) := (HKP.out.cell (p := ⟨db, 0, none⟩) hdl hne).trans HDB.out
      have c1 := HID.out.c1
      have hown := HID.out.map
      have HL0 := Lib.hid hl0
      clear hl0 hc0
      go_wp2_with (refine wpList_clear_own rfl _ 79 rfl 3 114 Tryd.underlying79 secElem bm _ _ rfl hown ?_; intro w2 hown2 hturn2; have HO2 := Lib.hid hown2; have HT2 := Lib.hid hturn2; clear hown2 hturn2)
      go_end0
      have hrows := HST.out.done HH.out.ok HL0.out
      have ho2 := HO2.out
      rw [← datum_none D.news] at ho2
      have hfin := HID.out.turned HT2.out ho2 (by simpa [HST.out.len] using HH.out.ok.len) (fun s hs => by simp at hs)
      refine ⟨rfl, ?_, HKP.out.then (Kp.of_grown HT2.out.grown (fun k e => ?_))⟩
      · rw [hrows] at hfin
        exact hfin
      · cases e; exact .inl (.inr (.inr rfl))
    · intro i c w1 cnt1 hcl hci hli hrg1 hlt hg1 hs1 hen
      have hrW := HR.out
      have hnr : ¬ Foot b g bm r := fun hf => by have := HLT.out r hf; omega
      have hid1 : IsDisk w1 b g bm { D with olds := rows } := HID.out.same hg1.size (fun k hk => hg1.block k (HID.out.lt hk) (fun e => by cases e; exact hnr hk))
      have hkp1 : Kp (Foot b g bm) W w1 := HKP.out.then (Kp.of_grown hg1 (fun k e => by cases e; exact .inr (by omega)))
      have cd : w1.cell? ⟨db, 0, none⟩ = some (.pointer (some ⟨b, 0, none⟩)) := (hkp1.cell (p := ⟨db, 0, none⟩) hdl hne).trans HDB.out
      have c0 := (hid1.alloc (.cells (Lib.byteCells c).toArray 114)).c0
      have cd' : (w1.alloc (.cells (Lib.byteCells c).toArray 114)).cell? ⟨db, 0, none⟩ = some (.pointer (some ⟨b, 0, none⟩)) := by
        rw [World.cell?_alloc_lt _ _ _ (by have := hkp1.size; show db < _; omega)]; exact cd
      have hx' := Go.heap_alloc_new w1 (.cells (Lib.byteCells c).toArray 114)
      have hil : i < rows.length := by
        have := (List.getElem?_eq_some_iff.1 hci).1
        rw [HH.out.ok.len] at this; rw [HST.out.len]; exact this
      have hil2 : (i : Int) < (rows.length : Int) := by omega
      obtain ⟨o, ho⟩ : ∃ o, rows[i]? = some o := ⟨_, List.getElem?_eq_getElem hil⟩
      have HCL := Lib.hid hcl
      have HCI := Lib.hid hci
      have HX := Lib.hid hx'
      have HID1 := Lib.hid (hid1.alloc (.cells (Lib.byteCells c).toArray 114))
      have HRG1 := Lib.hid hrg1
      have HKP1 := Lib.hid (hkp1.alloc (.cells (Lib.byteCells c).toArray 114))
      have HO := Lib.hid ho
      have HRGL := Lib.hid hrg
      have HW1 := Lib.hid hs1
      have HFIT : Hid (i * 64 + 64 ≤ (Lib.byteCells rows.flatten).toArray.size) := by
        show _ ≤ _
        have : rows.flatten.length = rows.length * 64 := flat_length hid1.ok.old
        simp only [List.size_toArray, Lib.byteCells_length, this]
        omega
      have hcs : (Lib.byteCells c).length = 64 := by rw [Lib.byteCells_length]; exact hcl
      have HCS := Lib.hid hcs
      clear hcl hci hx' hid1 hrg1 hkp1 ho hrg hli hs1 hcs hrW hil
      go_wp2_with (first
        | (refine wpList_alloc_agg rfl 114 rfl _ zero_info ?_)
        | (refine wpList_store_new rfl 114 _ _ rfl w1 (Lib.byteCells (zeros 64)) 114 rfl rfl (Lib.byteCells c) rfl (by rw [HCS.out]; rfl) (Lib.byteCells_one _) (by rw [HCS.out]; exact size_info) ?_))
      refine region_tail 7 (by kernel_rfl) (by kernel_rfl) ?_
      simp only [List.take_succ_cons, List.take_zero, List.drop_succ_cons, List.drop_zero]
      repeat (first
        | (refine wpStill_step (fun K hK => still_load_row rfl 114 _ rfl w1.heap.size 0 rfl 114 _ _ _ (Lib.byteCells c) HX.out (fun j v hv => by rw [Nat.zero_add]; simpa using hv) Tryd.underlying114 rfl (by rw [HCS.out]; exact size_info) (hK _ ?_)))
        | still_step)
      refine wpStill_nil ?_
      try go_frame
      clear hK K
      refine wpList_store_part rfl 114 _ _ rfl g (i * 64) rfl (Lib.byteCells c) rfl 114 _ HID1.out.drew.row (by rw [HCS.out]; exact HFIT.out) (Lib.byteCells_one _) (by rw [HCS.out]; exact size_info) ?_
      have hol : o.length = 64 := HID1.out.ok.old o (List.mem_of_getElem? HO.out)
      have hset := HID1.out.drew.rowSet HO.out (x := c) (by rw [HCL.out]; exact Nat.le_refl _)
      rw [List.drop_eq_nil_of_le (by rw [hol, HCL.out]; exact Nat.le_refl _), List.append_nil] at hset
      have hgs : (w1.alloc (.cells (Lib.byteCells c).toArray 114)).drew.grownBy (((w1.alloc (.cells (Lib.byteCells c).toArray 114)).drew).setRow g (splice (Lib.byteCells rows.flatten).toArray.toList (i * 64) (Lib.byteCells c)).toArray) (some g) :=
        ⟨rfl, rfl, rfl, by simp [World.setRow], fun k _ hk => setRow_other _ g k _ (fun e => hk (by rw [e]))⟩
      have hrg2 := ((HRG1.out.alloc (.cells (Lib.byteCells c).toArray 114)).kept (w' := (w1.alloc (.cells (Lib.byteCells c).toArray 114)).drew) (row := none) ⟨rfl, rfl, rfl, Nat.le_refl _, fun _ _ _ => rfl⟩ (by simp) (by simp)).kept hgs (fun e => HID1.out.mg (Option.some.inj e)) (fun e => hnr (.inr (.inl (Option.some.inj e))))
      have hkp2 := HKP1.out.drew.setRow (g := g) (.inr (.inl rfl)) (splice (Lib.byteCells rows.flatten).toArray.toList (i * 64) (Lib.byteCells c)).toArray
      have HS2 := Lib.hid hset
      have HR2 := Lib.hid hrg2
      have HK2 := Lib.hid hkp2
      clear hset hrg2 hkp2 hgs
      generalize ((w1.alloc (.cells (Lib.byteCells c).toArray 114)).drew).setRow g (splice (Lib.byteCells rows.flatten).toArray.toList (i * 64) (Lib.byteCells c)).toArray = w3 at *
      go_wp2
      go_roundw
      case rel => exact ⟨_, cnt1, _, HR2.out, HS2.out, HST.out.step HCI.out, HK2.out⟩
      case measure => rw [HR2.out.left_eq, HRGL.out.left_eq]; exact hlt

theorem run_settle (cap : Array Value) (w : World) : (callFunc 71 cap).run Tryd.prog w = .ok (.enter 71 cap) w := by
  kernel_rfl

theorem err_cell2 {w : World} {eb : Nat} {x : Int} {tmps : Array Value} (ht : tmps.getD 2 undef = .pointer (some ⟨eb, 0, none⟩)) (h : w.cell? ⟨eb, 0, none⟩ = some (.int .i64 x)) : (results Tryd.f53 tmps).run Tryd.prog w = .ok (.int .i64 x) w := by
  have ht' : tmps[2]?.getD undef = .pointer (some ⟨eb, 0, none⟩) := by simpa using ht
  simp [results, Tryd.results53, ht', go_sem, h]

set_option maxRecDepth 100000 in
set_option maxHeartbeats 2000000 in
theorem sync_any (h : IsDisk W b g bm D) : Calls Tryd.prog 53 #[.pointer (some ⟨b, 0, none⟩)] W fun e w' => e = .returned (.int .i64 (sync D).2) ∧ IsDisk w' b g bm (sync D).1 ∧ Kp (Foot b g bm) W w' := by
  have hmf : ∀ (fn : Fn) (first cap : Array Value) (w : World), (Instr.makeFunc fn first cap).run Tryd.prog w = .ok (.func fn first cap) w := fun _ _ _ _ => rfl
  have HW := Lib.hid (fun w (hw : IsDisk w b g bm D) => within_any hw 0)
  obtain ⟨x, hx⟩ : ∃ x, x = within D 0 := ⟨_, rfl⟩
  rw [← hx] at HW
  have HX := Lib.hid hx
  have HH := Lib.hid h
  clear h hx
  go_enter_defers Tryd.func53, Tryd.ntmps53
  go_wp2_with (go_at_call 59; refine (HW.out _ ((HH.out.alloc _).alloc _)).mono ?_; rintro e w' ⟨rfl, rfl⟩)
  generalize hO : ((W.alloc (Obj.cells #[Value.pointer (some { block := b, off := 0 })] 24)).alloc (Obj.cells #[Value.int IntKind.i64 x] 28)) = W4
  have hi : IsDisk W4 b g bm D := hO ▸ ((HH.out.alloc _).alloc _)
  have hk : Kp (Foot b g bm) W W4 := hO ▸ (((Kp.refl _ W).alloc _).alloc _)
  have hc : W4.cell? ⟨W.heap.size + 1, 0, none⟩ = some (.int .i64 x) := by rw [← hO]; simp [go_sem]
  have hf : W4.frozen? ⟨W.heap.size + 1, 0, none⟩ = false := by rw [← hO]; simp [go_sem]
  have hcd : W4.cell? ⟨W.heap.size, 0, none⟩ = some (.pointer (some ⟨b, 0, none⟩)) := by rw [← hO]; simp [go_sem]
  have hsz : W4.heap.size = W.heap.size + 2 := by rw [← hO]; simp
  have hlt := fun k (hk : Foot b g bm k) => HH.out.lt hk
  have hne : ∀ j, ¬ Foot b g bm (W.heap.size + j) := fun j hj => by have := hlt _ hj; omega
  refine leaves_cons (f := 69) (args := #[.pointer (some ⟨b, 0, none⟩), .pointer (some ⟨W.heap.size + 1, 0, none⟩), .func (.func 71) #[] #[.pointer (some ⟨W.heap.size, 0, none⟩)]]) (by simp) (by simp [go_sem]) ?_
  have hlo := HH.out.ok.lo
  unfold sync burn
  by_cases hoff : D.off = true
  · have hx0 : x = 180 := by rw [HX.out]; exact within_off hoff
    subst hx0
    rw [if_pos hoff]
    refine (burnt_err hi (W.heap.size + 1) 180 hc (by decide) _ _).mono ?_
    rintro e u' w'' ⟨rfl, rfl, hi2, hc2, hk2⟩
    exact ⟨_, err_cell2 rfl hc2, rfl, hi2, hk.then (hk2.mono fun k hk => hk.imp id (fun e => by omega))⟩
  · have hx0 : x = 0 := by rw [HX.out]; exact within_some (by simpa using hoff) (by omega) (by omega)
    subst hx0
    rw [if_neg hoff]
    by_cases hfu : D.fuse = 1
    · rw [if_pos hfu]
      refine (burnt_out hi (W.heap.size + 1) hc hf (hne 1) hfu _ _).mono ?_
      rintro e u' w'' ⟨rfl, rfl, hi2, hc2, hk2⟩
      exact ⟨_, err_cell2 rfl hc2, rfl, hi2, hk.then (hk2.mono fun k hk => hk.imp id (fun e => by omega))⟩
    · rw [if_neg hfu]
      refine (burnt_do hi (W.heap.size + 1) hc (hne 1) hfu settle _ _ (run_settle _) (fun W' hi' hk' => ?_) _).mono ?_
      · exact settle_any hi' _ ((hk'.cell (p := ⟨W.heap.size, 0, none⟩) (by show W.heap.size < _; omega) (hne 0)).trans hcd) (hne 0)
      · rintro e u' w'' ⟨rfl, rfl, hi2, hc2, hk2⟩
        exact ⟨_, err_cell2 rfl hc2, rfl, hi2, hk.then (hk2.mono fun k hk => hk.imp id (fun e => by omega))⟩
end Go.Proofs.YtoafebndlldclaaDoor.Dk

namespace Go.Proofs.YtoafebndlldclaaDoor.Dk
open Go Go.RowKit Go.ChangeMaps Go.MapKept Go.Sort
variable {W : World} {b g bm : Nat} {D : DS}

/-- what the library's sort does to a row of ints -/
def SortsInts : Prop := ∀ (blk off cap : Nat) (zs : List Int) (w : World), Holds (Value.int .i64) w blk off zs.toArray → blk < w.heap.size → zs.length < 4611686018427387904 →
  Calls Tryd.prog 60 #[.slice (some ⟨blk, off, none⟩) zs.length cap] w fun e w' => e = .returned (.tuple #[]) ∧ ∃ n os, w' = grow (putRow (Value.int .i64) (Sort.ahead w n) blk off (zs.mergeSort fun x y => decide (x ≤ y)).toArray) os
def SortsNone : Prop := ∀ (p : Option Addr) (cap : Nat) (w : World), Calls Tryd.prog 60 #[.slice p 0 cap] w fun e w' => e = .returned (.tuple #[]) ∧ w' = w

theorem holds_row {w : World} {g : Nat} {cur : Array Value} {e : TypeId} {ss : List Int} (hb : w.heap[g]? = some (.cells cur e (0, 0))) (ht : cur.toList.take ss.length = ss.map (Value.int .i64)) : Holds (Value.int .i64) w g 0 ss.toArray := by
  intro j hj
  have hj' : j < ss.length := by simpa using hj
  refine ⟨?_, by simp [World.frozen?, hb]⟩
  have h1 : (cur.toList.take ss.length)[j]? = (ss.map (Value.int .i64))[j]? := by rw [ht]
  rw [List.getElem?_take_of_lt hj'] at h1
  simp only [World.cell?, hb, Nat.zero_add]
  simp only [Option.isSome_none, Bool.false_eq_true, if_false]
  rw [← Array.getElem?_toList, h1]
  simp [hj']
theorem heap_sort {w : World} {g n : Nat} {os : Array Obj} {cur : Array Value} {e : TypeId} {fr : Nat × Nat} (d : Array Int) (hb : w.heap[g]? = some (.cells cur e fr)) :
    (grow (putRow (Value.int .i64) (Sort.ahead w n) g 0 d) os).heap[g]? = some (.cells (putCells (Value.int .i64) 0 d cur) e fr) := by
  have hg : g < w.heap.size := (Array.getElem?_eq_some_iff.1 hb).1
  rw [heap_grow_old _ _ (by simpa using hg)]
  simp [putRow, mapBlock, Sort.ahead, Array.getElem?_modify, hb, onCells]
theorem grown_sort {w : World} {g n : Nat} {os : Array Obj} (d : Array Int) : w.grownBy (grow (putRow (Value.int .i64) (Sort.ahead w n) g 0 d) os) (some g) := by
  refine ⟨rfl, rfl, rfl, by simp, fun k hk hne => ?_⟩
  rw [heap_grow_old _ _ (by simpa using hk)]
  have : g ≠ k := fun e => hne (by rw [e])
  simp [putRow, mapBlock, Sort.ahead, Array.getElem?_modify, this]
theorem take_put (cur : Array Value) (ts : List Int) (h : ts.length ≤ cur.size) : (putCells (Value.int .i64) 0 ts.toArray cur).toList.take ts.length = ts.map (Value.int .i64) := by
  apply List.ext_getElem?
  intro j
  by_cases hj : j < ts.length
  · rw [List.getElem?_take_of_lt hj, Array.getElem?_toList]
    simp [putCells, hj, show j < cur.size by omega]
  · rw [List.getElem?_take_eq_none (by omega), List.getElem?_eq_none (by simp; omega)]
theorem owns_sort {w : World} {base g cap n : Nat} {e : TypeId} {os : Array Obj} {cur : Array Value} {ss ts : List Int} (hl : ts.length = ss.length) (hbase : base ≤ g) (hb : w.heap[g]? = some (.cells cur e (0, 0)))
    (h1 : ss.length ≤ cap) (h2 : cap ≤ maxLen) (h3 : cur.size = cap * 1) :
    (grow (putRow (Value.int .i64) (Sort.ahead w n) g 0 ts.toArray) os).ownsRow base e 1 (.slice (some ⟨g, 0, none⟩) ss.length cap) ss.length (ts.map (Value.int .i64)) :=
  ⟨by simp [hl], .inr ⟨g, cap, _, rfl, hbase, heap_sort _ hb, h1, h2, by simp [putCells, h3], by rw [Nat.mul_one, ← hl]; exact take_put cur ts (by omega)⟩⟩

/-- the places met so far -/
structure Met (D : DS) (left : Lit → Bool) (ss : List Nat) : Prop where
  nodup : ss.Nodup
  mem : ∀ i : Nat, i ∈ ss ↔ (D.news.getD i none).isSome = true ∧ left (.int .i64 i) = false
theorem Met.start (D : DS) : Met D (Maps.has (datum D.news)) [] := ⟨List.nodup_nil, fun i => by rw [datum_has]; cases (D.news.getD i none) <;> simp⟩
theorem Met.step {D : DS} {left : Lit → Bool} {ss : List Nat} (h : Met D left ss) {i : Nat} {c : Bs} (hi : D.news[i]? = some (some c)) (hl : left (.int .i64 i) = true) : Met D (fun z => left z && !z.sameKey (.int .i64 i)) (ss ++ [i]) := by
  have hni : i ∉ ss := fun hm => by have := ((h.mem i).1 hm).2; rw [hl] at this; cases this
  refine ⟨?_, fun j => ?_⟩
  · rw [List.nodup_append]
    refine ⟨h.nodup, by simp, ?_⟩
    intro a ha b hb
    simp at hb
    subst hb
    rintro rfl
    exact hni ha
  · rw [List.mem_append, List.mem_singleton, h.mem j, sameKey_int]
    by_cases e : j = i
    · subst e
      simp [List.getD_eq_getElem?_getD, hi]
    · have e2 : ((j : Int) = (i : Int)) = False := by simp; omega
      simp [e, e2]
theorem sort_unique {l l' : List Int} (h : l.Perm l') (hs : l'.Pairwise (fun a b => a ≤ b)) : l.mergeSort (fun x y => decide (x ≤ y)) = l' := by
  have tr : ∀ a b c : Int, decide (a ≤ b) = true → decide (b ≤ c) = true → decide (a ≤ c) = true := fun a b c h1 h2 => by simp only [decide_eq_true_eq] at *; omega
  have to : ∀ a b : Int, (decide (a ≤ b) || decide (b ≤ a)) = true := fun a b => by simp only [Bool.or_eq_true, decide_eq_true_eq]; omega
  refine List.Perm.eq_of_pairwise (le := fun a b => a ≤ b) (fun a b _ _ h1 h2 => by omega) ?_ hs ((List.mergeSort_perm l _).trans h)
  exact (List.pairwise_mergeSort tr to l).imp (fun h => by simpa using h)
theorem Met.done {D : DS} {left : Lit → Bool} {ss : List Nat} (h : Met D left ss) (hl : ∀ kl, left kl = false) : (ss.map (fun (i : Nat) => (i : Int))).mergeSort (fun x y => decide (x ≤ y)) = (dirty D).map (fun (i : Nat) => (i : Int)) := by
  have hp : ss.Perm (dirty D) := by
    refine (List.perm_ext_iff_of_nodup h.nodup ?_).2 fun i => ?_
    · exact (dirtyFrom_sorted (l := D.news) (k := 0)).imp (fun h => by omega)
    · rw [h.mem, hl, dirty_mem, List.getD_eq_getElem?_getD]
      cases hn : D.news[i]? with
      | none => simp
      | some x => cases x <;> simp
  refine sort_unique (hp.map _) ?_
  rw [List.pairwise_map]
  exact (dirtyFrom_sorted (l := D.news) (k := 0)).imp (fun h => by omega)
theorem dirtyFrom_length (l : List (Option Bs)) : ∀ k, (dirtyFrom k l).length ≤ l.length := by
  induction l with
  | nil => intro k; simp [dirtyFrom]
  | cons x l ih =>
    intro k
    have := ih (k + 1)
    cases x <;> simp [dirtyFrom] <;> omega

theorem int_info : (Tryd.prog.info? 3).map (fun i => (i.zero, i.size, i.bytes)) = some (some (.int .i64 0), 1, 8) := by kernel_rfl

def ints (l : List Nat) : List Value := l.map fun (i : Nat) => Value.int .i64 (i : Int)
def DirtyInv (bm r : Nat) (D : DS) (W : World) (v : Value) (wr : World) : Prop := ∃ (left : Lit → Bool) (cnt : Nat) (ss : List Nat), wr.ranges Tryd.prog 3 secElem bm r (Maps.size (datum D.news)) (datum D.news) left cnt ∧
  wr.ownsRow W.heap.size 3 1 v ss.length (ints ss) ∧ Met D left ss ∧ ss.length + cnt ≤ 4096 ∧ Below W.heap.size W wr

set_option maxRecDepth 100000 in
set_option maxHeartbeats 2000000 in
theorem dirty_any (hsort : SortsInts) (hnone : SortsNone) (h : IsDisk W b g bm D) : Calls Tryd.prog 37 #[.pointer (some ⟨b, 0, none⟩)] W fun e w' => ∃ v, e = .returned v ∧ w'.ownsRow W.heap.size 3 1 v (dirty D).length (ints (dirty D)) ∧ Below W.heap.size W w' := by
  have c1 := h.c1
  have hmap := h.map
  obtain ⟨i0, hi, hz0, hz1, hz2⟩ := info_parts int_info
  have HH := Lib.hid h
  have HM := Lib.hid (show bm < W.heap.size from h.lt_m)
  have hsz : Maps.size (datum D.news) ≤ 4096 := by
    have := datum_size D.news
    have := h.ok.len
    have := h.ok.hi
    omega
  have HSORT := Lib.hid hsort
  have HNONE := Lib.hid hnone
  clear h hsort hnone
  go_enter Tryd.func37, Tryd.ntmps37
  go_wp2_with (at_range; refine wpList_range_own _ rfl _ 79 rfl 3 114 (Maps.int_keyed Tryd.underlying3) Tryd.underlying79 secElem bm _ _ rfl hmap ?_; intro w0 hrg0 hg0 hs0)
  try go_frame
  obtain ⟨r, hr⟩ : ∃ r, r = W.heap.size := ⟨_, rfl⟩
  rw [← hr] at hrg0 hs0 ⊢
  have HR := Lib.hid hr
  have HS0 := Lib.hid hs0
  clear hr hs0 c1 hmap
  go_loopw [2, 3] (fun v _ wr => DirtyInv bm r D W v wr) (fun _ _ wr => wr.rangeLeft bm r)
  case atStart =>
    have hb0 : Below W.heap.size W w0 := (Below.refl _ _).grown hg0 (Nat.le_refl _) (fun k e => by cases e)
    exact ⟨_, _, [], hrg0, World.ownsRow_nil _ _ _ _, Met.start D, by simpa using hsz, hb0⟩
  case round =>
    obtain ⟨left, cnt, ss, hrg, hown, hmet, hcnt, hbel⟩ := hrel
    have HMET := Lib.hid hmet
    have HBEL := Lib.hid hbel
    have HOWN := Lib.hid hown
    have HCNT := Lib.hid hcnt
    clear hmet hbel hown hcnt
    go_wp2_with (at_next; refine wpList_next_disk rfl _ rfl 3 (Maps.int_keyed Tryd.underlying3) Tryd.underlying3 bm r _ D.news _ _ rfl hrg ?_ ?_)
    · intro hc0 hl0
      have hsorted := HMET.out.done hl0
      have hnr := row_ne_iter HOWN.out hrg
      have HSD := Lib.hid hsorted
      clear hsorted hl0 hc0
      rcases HOWN.out.2 with ⟨rfl, hz⟩ | ⟨q, cap, cur, rfl, hq, hb, k1, k2, k3, k4⟩
      · have hnc := HNONE.out none 0 wr
        have HNC := Lib.hid hnc
        clear hnc
        go_wp2_with (go_at_call 60; refine HNC.out.mono ?_; rintro e w' ⟨rfl, rfl⟩)
        go_ret
        have hs0 : ss = [] := List.eq_nil_of_length_eq_zero hz
        subst hs0
        have hd : dirty D = [] := by
          have := HSD.out
          simp at this
          exact this
        refine ⟨_, rfl, ?_, HBEL.out⟩
        rw [hd]
        exact World.ownsRow_nil _ _ _ _
      · have hH : Holds (Value.int .i64) wr q 0 (ss.map (fun (i : Nat) => (i : Int))).toArray := holds_row hb (by have := k4; rw [Nat.mul_one] at this; rw [List.length_map, List.map_map]; exact this)
        have hlen : (ss.map (fun (i : Nat) => (i : Int))).length = ss.length := by simp
        have hc := HSORT.out q 0 cap (ss.map (fun (i : Nat) => (i : Int))) wr hH ((Array.getElem?_eq_some_iff.1 hb).1) (by have := HCNT.out; rw [hlen]; omega)
        rw [hlen, HSD.out] at hc
        have hdl : ((dirty D).map (fun (i : Nat) => (i : Int))).length = (ss.map (fun (i : Nat) => (i : Int))).length := by rw [← HSD.out, List.length_mergeSort]
        have HC := Lib.hid hc
        have HDL := Lib.hid hdl
        have HB := Lib.hid hb
        have HK4 := Lib.hid k4
        have HK3 := Lib.hid k3
        clear hc hdl hH hb k4 k3
        go_wp2_with (go_at_call 60; refine HC.out.mono ?_; rintro e w' ⟨rfl, nn, os, rfl⟩)
        go_ret
        refine ⟨_, rfl, ?_, HBEL.out.grown (grown_sort _) HBEL.out.size (fun k e => by cases e; exact hq)⟩
        have hfin := owns_sort (n := nn) (os := os) (ts := (dirty D).map (fun (i : Nat) => (i : Int))) (ss := ss.map (fun (i : Nat) => (i : Int))) HDL.out hq HB.out (by rw [hlen]; exact k1) k2 HK3.out
        rw [← HDL.out] at hfin
        simp only [List.length_map, List.map_map] at hfin
        have hll : (dirty D).length = ss.length := by have := HDL.out; simpa using this
        rw [← hll]
        exact hfin
    · intro i c w1 cnt1 hcl hci hli hrg1 hlt hg1 hs1 hen
      have hni := row_ne_iter HOWN.out hrg
      have hown1 := HOWN.out.kept hg1 (.inr hni.symm)
      have hmet1 := HMET.out.step hci hli
      have hbel1 := HBEL.out.grown hg1 HBEL.out.size (fun k e => by cases e; have := HR.out; omega)
      have hcnt1 : ss.length + 1 ≤ 4096 := by have := HCNT.out; omega
      have hcnt2 : (ss ++ [i]).length + cnt1 ≤ 4096 := by have := HCNT.out; simp; omega
      have HMET1 := Lib.hid hmet1
      have HBEL1 := Lib.hid hbel1
      have HRG1 := Lib.hid hrg1
      have HRG := Lib.hid hrg
      have HCNT2 := Lib.hid hcnt2
      clear hcl hci hli hs1 hrg1 hmet1 hrg hcnt2 hbel1 hni
      go_wp2_with (at_builtin; refine wpList_append_own _ rfl _ _ 62 rfl W.heap.size 3 i0 (.int .i64 0) 1 8 Tryd.underlying62 hi hz0 hz1 hz2 rfl (by decide) _ _ _ rfl (hown1.alloc _) ⟨w1.heap.size, 0, none⟩ 1 1 [.int .i64 (i : Int)] rfl rfl (cell_one_new _ _ _) (by simp [Value.oneCell']) (by unfold maxLen; omega) (by omega) (by have := HBEL1.out.size; simp; omega) ?_; intro v' w2 hown2 hgrow2 hnil2)
      have hrg2 := (HRG1.out.alloc (.cells #[.int .i64 (i : Int)] 3)).kept hgrow2 (row_ne_low (hown1.alloc (.cells #[.int .i64 (i : Int)] 3)) HM.out) (row_ne_iter (hown1.alloc (.cells #[.int .i64 (i : Int)] 3)) (HRG1.out.alloc _))
      have hbel2 := (HBEL1.out.alloc HBEL1.out.size (.cells #[.int .i64 (i : Int)] 3)).grown hgrow2 (by have := HBEL1.out.size; simp; omega) (fun k e => ((hown1.alloc (.cells #[.int .i64 (i : Int)] 3)).lt k e).1)
      have HRG2 := Lib.hid hrg2
      have HBEL2 := Lib.hid hbel2
      have HOWN2 := Lib.hid hown2
      clear hrg2 hbel2 hown2 hnil2 hgrow2
      go_wp2
      go_roundw
      case rel => exact ⟨_, cnt1, ss ++ [i], HRG2.out, by rw [List.length_append]; simpa [ints] using HOWN2.out, HMET1.out, HCNT2.out, HBEL2.out⟩
      case measure => rw [HRG2.out.left_eq, HRG.out.left_eq]; exact hlt
end Go.Proofs.YtoafebndlldclaaDoor.Dk

namespace Go.Proofs.YtoafebndlldclaaDoor.Dk
open Go Go.RowKit Go.ChangeMaps Go.MapKept

theorem datum_inj {l l' : List (Option Bs)} (hl : l.length = l'.length) (h : datum l = datum l') : l = l' := by
  apply List.ext_getElem?
  intro i
  by_cases hi : i < l.length
  · have h1 := datum_at l i (.map [])
    have h2 := datum_at l' i (.map [])
    rw [h, h2] at h1
    rw [List.getElem?_eq_getElem hi, List.getElem?_eq_getElem (by omega : i < l'.length)] at h1 ⊢
    cases hx : l[i] with
    | none =>
      cases hy : l'[i] with
      | none => rfl
      | some s => rw [hx, hy] at h1; simp at h1
    | some t =>
      cases hy : l'[i] with
      | none => rw [hx, hy] at h1; simp at h1
      | some s => rw [hx, hy] at h1; simp at h1; rw [h1]
  · rw [List.getElem?_eq_none (by omega), List.getElem?_eq_none (by omega)]

theorem IsDisk.uniq {W : World} {b g bm : Nat} {D D' : DS} (h : IsDisk W b g bm D) (h' : IsDisk W b g bm D') : D = D' := by
  have h1 := h.blk.symm.trans h'.blk
  simp only [Option.some.injEq, Obj.cells.injEq, Array.mk.injEq, List.cons.injEq, Value.slice.injEq, Value.int.injEq, Value.bool.injEq, and_true, true_and] at h1
  have h2 := h.row.symm.trans h'.row
  simp only [Option.some.injEq, Obj.cells.injEq, and_true] at h2
  have h2 := byteCells_inj (by simpa using h2)
  obtain ⟨es, clock, k1, k2, k3, k4⟩ := h.map
  obtain ⟨es', clock', m1, m2, m3, m4⟩ := h'.map
  have h3 := k1.symm.trans m1
  simp only [Option.some.injEq, Obj.map.injEq] at h3
  obtain ⟨e1, e2⟩ := h3
  subst e1
  have h4 : datum D.news = datum D'.news := k4.trans m4.symm
  have hlen : D.olds.length = D'.olds.length := by omega
  have hnews := datum_inj (by rw [h.ok.len, h'.ok.len, hlen]) h4
  have holds : D.olds = D'.olds := by
    apply List.ext_getElem?
    intro i
    by_cases hi : i < D.olds.length
    · have x1 := List.getElem?_eq_getElem hi
      have x2 := List.getElem?_eq_getElem (by omega : i < D'.olds.length)
      rw [x1, x2]
      congr 1
      apply List.ext_getElem?
      intro j
      have l1 := h.ok.old _ (List.mem_of_getElem? x1)
      have l2 := h'.ok.old _ (List.mem_of_getElem? x2)
      by_cases hj : j < 64
      · rw [← flat_at h.ok.old x1 j hj, ← flat_at h'.ok.old x2 j hj, h2]
      · rw [List.getElem?_eq_none (by omega), List.getElem?_eq_none (by omega)]
    · rw [List.getElem?_eq_none (by omega), List.getElem?_eq_none (by omega)]
  cases D
  cases D'
  simp only at hnews holds h1
  subst hnews holds
  obtain ⟨_, h5, h6⟩ := h1
  have h5 := Int.ofNat.inj h5
  subst h5 h6
  rfl
end Go.Proofs.YtoafebndlldclaaDoor.Dk
