/- strings.Builder and strings.Trim. -/
import Derived.Test.YtoafebndlldclaaDoorStrs
import Derived.Test.YtoafebndlldclaaDoorChecked
import Derived.WalkKit
import Derived.BigQuiet
import Derived.Lib.Hide
import Derived.Test.YtoafebndlldclaaDoorDb
import Derived.RegionTactic
namespace Go.Proofs.YtoafebndlldclaaDoor
open Go Go.Shelf Go.RowKit
abbrev TB : TypeId := 86
abbrev TU : TypeId := 5

theorem infoB : (Tryd.prog.info? 86).map (·.size) = some 2 := by kernel_rfl

set_option maxHeartbeats 1000000 in
set_option maxRecDepth 100000 in
theorem copyCheck_used (b : Nat) (w : World) (h0 : w.cell? ⟨b, 0, none⟩ = some (.pointer (some ⟨b, 0, none⟩))) :
    Calls Tryd.prog 64 #[.pointer (some ⟨b, 0, none⟩)] w fun e w' => e = .returned (.tuple #[]) ∧ w' = w := by
  obtain ⟨j, hj, _⟩ := Option.map_eq_some_iff.1 extra169.sizeBuilder
  go_enter Tryd.func64, Tryd.ntmps64
  go_wp2
  try rw [Lib.run_neq_ptr_same w _ Tryd.underlying84 hj]
  go_wp2
  go_end0
  exact ⟨rfl, rfl⟩

set_option maxHeartbeats 1000000 in
set_option maxRecDepth 100000 in
theorem copyCheck_fresh (b : Nat) (w : World) (h0 : w.cell? ⟨b, 0, none⟩ = some (.pointer none)) (hsh : w.shape? b = some (TB, 2)) (hfz : w.frozen? ⟨b, 0, none⟩ = false) :
    Calls Tryd.prog 64 #[.pointer (some ⟨b, 0, none⟩)] w fun e w' => e = .returned (.tuple #[]) ∧ w' = w.setCell ⟨b, 0, none⟩ (.pointer (some ⟨b, 0, none⟩)) := by
  obtain ⟨j, hj, hjs⟩ := Option.map_eq_some_iff.1 extra169.sizeBuilder
  go_enter Tryd.func64, Tryd.ntmps64
  go_wp2
  rw [Lib.run_to_unsafe w ⟨b, 0, none⟩ Tryd.underlying84 Tryd.underlying139 hj (by rw [hjs]; decide) hsh (Nat.zero_lt_succ 1)]
  simp only [Result.andThen]
  rw [Oper.upon_value]
  go_wp2
  rw [run_callFunc_extern Tryd.func78 (by kernel_rfl) (by kernel_rfl) (by kernel_rfl) (e := Extern.AbiNoEscape.same) (by kernel_rfl)]
  rw [Lib.run_noEscape]
  simp only [Result.andThen]
  rw [Oper.upon_value]
  go_wp2
  rw [Lib.run_from_unsafe w ⟨b, 0, none⟩ Tryd.underlying139 Tryd.underlying84 hj hsh extra169.liesBuilder]
  simp only [Result.andThen]
  rw [Oper.upon_value]
  go_wp2
  go_end0
  exact ⟨rfl, rfl⟩

/-- copyCheck at a builder of the call's own -/
theorem copyCheck_any (B b : Nat) (bs : List Value) (w : World) (h : Lib.IsBuilderF TB TU B b bs w) :
    Calls Tryd.prog 64 #[.pointer (some ⟨b, 0, none⟩)] w fun e w' => e = .returned (.tuple #[]) ∧ (Lib.BuilderAtF TB TU B b (.pointer (some ⟨b, 0, none⟩)) bs w' ∧ Below B w w') := by
  rcases h with h | h
  · refine (copyCheck_fresh b w h.cell0 h.shape h.frozen0).mono ?_
    rintro e w' ⟨rfl, rfl⟩
    exact ⟨rfl, h.used _, (Below.refl B w).setCell (p := ⟨b, 0, none⟩) h.1 _⟩
  · refine (copyCheck_used b w h.cell0).mono ?_
    rintro e w' ⟨rfl, rfl⟩
    exact ⟨rfl, h, Below.refl B _⟩

set_option maxHeartbeats 1000000 in
set_option maxRecDepth 100000 in
theorem writeString_any (B b : Nat) (bs : List Value) (s : ByteArray) (w : World) (h : Lib.IsBuilderF TB TU B b bs w) (hlen : bs.length + s.size ≤ 140737488355328) (hBw : B ≤ w.heap.size) :
    Calls Tryd.prog 47 #[.pointer (some ⟨b, 0, none⟩), .string s] w fun e w' => e = .returned (.tuple #[.int .i64 s.size, .nilIface]) ∧ (Lib.BuilderAtF TB TU B b (.pointer (some ⟨b, 0, none⟩)) (bs ++ Lib.strCells s) w' ∧ Below B w w') := by
  obtain ⟨i0, hi, hz0, hz1, hz2⟩ := info_parts extra169.infoByte
  have hi : Tryd.prog.info? 5 = some i0 := hi
  go_enter Tryd.func47, Tryd.ntmps47
  go_wp2_with fail
  refine (copyCheck_any B b bs _ h).mono ?_
  rintro e w1 ⟨rfl, h1, hb1⟩
  obtain ⟨hB, v, hbk, hown, hne⟩ := h1
  have c0 : w1.cell? ⟨b, 0, none⟩ = some (.pointer (some ⟨b, 0, none⟩)) := by rw [Lib.cell_of_heap hbk]; rfl
  have c1 : w1.cell? ⟨b, 1, none⟩ = some v := by rw [Lib.cell_of_heap hbk]; rfl
  go_wp2_with (at_builtin; refine Lib.wpList_append_own_stringF _ rfl _ _ 34 9 rfl B 5 i0 Tryd.underlying34 Tryd.underlying9 hi hz0 hz1 hz2 _ _ _ rfl hown s rfl ?c3 ?c4 ?c5 ?_)
  case c3 => unfold maxLen; omega
  case c4 => omega
  case c5 => have := hb1.size; omega
  intro v' w2 hown' hgrow _
  have hlt : b < w1.heap.size := (Array.getElem?_eq_some_iff.1 hbk).1
  have hb2 : w2.heap[b]? = some (.cells #[.pointer (some ⟨b, 0, none⟩), v] TB (0, 0)) := (hgrow.block b hlt (fun e => hne e.symm)).trans hbk
  have d0 : w2.cell? ⟨b, 0, none⟩ = some (.pointer (some ⟨b, 0, none⟩)) := by rw [Lib.cell_of_heap hb2]; rfl
  have d1 : w2.cell? ⟨b, 1, none⟩ = some v := by rw [Lib.cell_of_heap hb2]; rfl
  have f1 : w2.frozen? ⟨b, 1, none⟩ = false := Lib.frozen_of_heap hb2 1
  obtain ⟨ao, n', cap, rfl⟩ : ∃ ao n' cap, v' = .slice ao n' cap := by
    rcases hown'.2 with ⟨hv, _⟩ | ⟨g, cap, cur, fz, hv, _⟩
    · exact ⟨_, _, _, hv⟩
    · exact ⟨_, _, _, hv⟩
  go_wp2
  go_ret2
  refine ⟨rfl, ?_, ?_⟩
  · exact Lib.BuilderAtF.put (T := TB) (e := TU) hB hb2 (bs' := bs ++ Lib.strCells s) (by simpa [Lib.strCells_length] using hown') (by decide)
  · exact (hb1.grown hgrow (by have := hb1.size; omega) (fun k hk => (hown.lt k hk).1)).setCell (p := ⟨b, 1, none⟩) hB _

theorem string_any (B b : Nat) (l : List UInt8) (w : World) (h : Lib.IsBuilderF TB TU B b (Lib.byteCells l) w) (hBw : B ≤ w.heap.size) :
    Calls Tryd.prog 49 #[.pointer (some ⟨b, 0, none⟩)] w fun e w' => e = .returned (.string ⟨l.toArray⟩) ∧ (Lib.IsBuilderF TB TU B b (Lib.byteCells l) w' ∧ Below B w w') :=
  Any.Builder_String_any_f lays169 extra169 B b l w h hBw

theorem trim_zero (l : List UInt8) : Lib.trimB l 0 = [] ↔ ∀ x ∈ l, x = 0 := by
  have hd : ∀ (l : List UInt8), l.dropWhile (· == 0) = [] ↔ ∀ x ∈ l, x = 0 := by
    intro l
    induction l with
    | nil => simp
    | cons y l ih =>
      by_cases hy : y = 0
      · subst hy
        simp [ih]
      · simp [hy]
  unfold Lib.trimB Lib.trimLeftB Lib.trimRightB
  constructor
  · intro h
    have h1 := (hd _).1 h
    by_cases he : l.reverse.dropWhile (· == 0) = []
    · have h2 := (hd _).1 he
      intro x hx
      exact h2 x (by simpa using hx)
    · exfalso
      obtain ⟨y, r, hyr⟩ := List.exists_cons_of_ne_nil he
      have h3 : y = 0 := h1 y (by rw [hyr]; simp)
      have h4 := List.head?_dropWhile_not (· == (0 : UInt8)) l.reverse
      rw [hyr] at h4
      simp [h3] at h4
  · intro h
    have : l.reverse.dropWhile (· == 0) = [] := (hd _).2 (fun x hx => h x (by simpa using hx))
    rw [this]
    rfl

set_option maxHeartbeats 1000000 in
set_option maxRecDepth 100000 in
theorem trim_any (s : ByteArray) (w : World) (hs : s.size ≤ 9223372036854775807) :
    Calls Tryd.prog 66 #[.string s, .string ⟨#[0]⟩] w fun e w' => e = .returned (.string ⟨(Lib.trimB s.data.toList 0).toArray⟩) ∧ ∃ m, w' = w.drewN m := by
  have hR := Any.strings_trimRightByte lays232 s 0
  have hL := fun w => Any.strings_trimLeftByte lays231 ⟨(Lib.trimRightB s.data.toList 0).toArray⟩ 0 w
  have HR := Lib.hid hR
  have HL := Lib.hid hL
  clear hR hL
  by_cases h0 : s.size = 0
  · have hd : s = ⟨#[]⟩ := by
      apply ByteArray.ext
      exact Array.eq_empty_of_size_eq_zero h0
    subst hd
    go_enter Tryd.func66, Tryd.ntmps66
    go_wp2_with fail
    go_ret
    exact ⟨rfl, 0, rfl⟩
  · have ht : ¬ s.toList = [] := by
      rw [ByteArray.toList_eq]
      intro h
      apply h0
      have := congrArg List.length h
      simpa using this
    have hte : s.toList.isEmpty = false := by simpa using ht
    have h128 : ((({ data := #[0] } : ByteArray)[0]'(by decide)).toNat : Int) < 128 := by decide
    have h129 : decide ((((({ data := #[0] } : ByteArray)[0]'(by decide)).toNat : Int)) < 128) = true := by decide
    go_enter Tryd.func66, Tryd.ntmps66
    go_wp2_with fail
    go_quiet (first
      | (go_at_call 81; exact Calls.quiet_of_same (HR.out _ hs))
      | (go_at_call 80; exact Calls.quiet_of_same (HL.out _)))
    go_wp2_with fail
    go_ret
    exact ⟨rfl, _, rfl⟩
end Go.Proofs.YtoafebndlldclaaDoor

namespace Go.Proofs.YtoafebndlldclaaDoor
open Go Go.Shelf Go.RowKit

/-- blocks that are no rows of bytes, but block b, are as they were -/
def KpU (b : Nat) (w w' : World) : Prop := ∀ (k : Nat) (o : Obj), k ≠ b → w.heap[k]? = some o → (∀ cs fr, o ≠ .cells cs TU fr) → w'.heap[k]? = some o
theorem KpU.refl (b : Nat) (w : World) : KpU b w w := fun _ _ _ h _ => h
theorem KpU.trans {b : Nat} {x y z : World} (h : KpU b x y) (k : KpU b y z) : KpU b x z := fun i o hi ho hn => k i o hi (h i o hi ho hn) hn
theorem KpU.grown {b : Nat} {x y z : World} {v : Value} {n : Nat} {B : Nat} {xs : List Value} (h : KpU b x y) (hown : y.ownsRowF B TU 1 v n xs) (hg : y.grownBy z v.ownBlock) : KpU b x z := by
  intro k o hk ho hn
  have h1 := h k o hk ho hn
  rw [hg.block k (Array.getElem?_eq_some_iff.1 h1).1 ?_]
  · exact h1
  · intro e
    rcases hown.2 with ⟨rfl, _⟩ | ⟨g, cap, cur, fz, rfl, _, hgg, _⟩
    · simp [Value.ownBlock] at e
    · simp only [Value.ownBlock, Option.some.injEq] at e
      subst e
      rw [hgg] at h1
      exact hn cur fz (Option.some.inj h1).symm
theorem KpU.setCell {b : Nat} {x y : World} (h : KpU b x y) (off : Nat) (v : Value) : KpU b x (y.setCell ⟨b, off, none⟩ v) :=
  fun k o hk ho hn => (Below.heap_setCell _ _ _ _ hk).trans (h k o hk ho hn)
theorem KpU.drew {b : Nat} {x y : World} (h : KpU b x y) : KpU b x y.drew := h
theorem KpU.alloc {b : Nat} {x y : World} (h : KpU b x y) (o : Obj) : KpU b x (y.alloc o) := by
  intro k o' hk ho hn
  have h1 := h k o' hk ho hn
  exact (Below.heap_alloc _ _ _ (Array.getElem?_eq_some_iff.1 h1).1).trans h1
theorem KpU.freeze {b g n : Nat} {x y : World} (h : KpU b x y) {cur : Array Value} {fz : Nat × Nat} (hg : y.heap[g]? = some (.cells cur TU fz)) : KpU b x (y.freeze ⟨g, 0, none⟩ n) := by
  intro k o hk ho hn
  have h1 := h k o hk ho hn
  have hne : k ≠ g := by
    rintro rfl
    rw [hg] at h1
    exact hn cur fz (Option.some.inj h1).symm
  unfold World.freeze
  split
  · exact h1
  · simp only [Array.getElem?_modify]
    rw [if_neg (fun e => hne e.symm)]
    exact h1

/-- copyCheck at a builder of the call's own -/
theorem copyCheck_kept (B b : Nat) (bs : List Value) (w : World) (h : Lib.IsBuilderF TB TU B b bs w) :
    Calls Tryd.prog 64 #[.pointer (some ⟨b, 0, none⟩)] w fun e w' => e = .returned (.tuple #[]) ∧ (Lib.BuilderAtF TB TU B b (.pointer (some ⟨b, 0, none⟩)) bs w' ∧ Below B w w') ∧ KpU b w w' := by
  rcases h with h | h
  · refine (copyCheck_fresh b w h.cell0 h.shape h.frozen0).mono ?_
    rintro e w' ⟨rfl, rfl⟩
    exact ⟨rfl, ⟨h.used _, (Below.refl B w).setCell (p := ⟨b, 0, none⟩) h.1 _⟩, (KpU.refl b w).setCell 0 _⟩
  · refine (copyCheck_used b w h.cell0).mono ?_
    rintro e w' ⟨rfl, rfl⟩
    exact ⟨rfl, ⟨h, Below.refl B _⟩, KpU.refl b _⟩

set_option maxHeartbeats 1000000 in
set_option maxRecDepth 100000 in
theorem writeString_kept (B b : Nat) (bs : List Value) (s : ByteArray) (w : World) (h : Lib.IsBuilderF TB TU B b bs w) (hlen : bs.length + s.size ≤ 140737488355328) (hBw : B ≤ w.heap.size) :
    Calls Tryd.prog 47 #[.pointer (some ⟨b, 0, none⟩), .string s] w fun e w' => e = .returned (.tuple #[.int .i64 s.size, .nilIface]) ∧ (Lib.BuilderAtF TB TU B b (.pointer (some ⟨b, 0, none⟩)) (bs ++ Lib.strCells s) w' ∧ Below B w w') ∧ KpU b w w' := by
  obtain ⟨i0, hi, hz0, hz1, hz2⟩ := info_parts extra169.infoByte
  have hi : Tryd.prog.info? 5 = some i0 := hi
  go_enter Tryd.func47, Tryd.ntmps47
  go_wp2_with fail
  refine (copyCheck_kept B b bs _ h).mono ?_
  rintro e w1 ⟨rfl, ⟨h1, hb1⟩, hu1⟩
  obtain ⟨hB, v, hbk, hown, hne⟩ := h1
  have c0 : w1.cell? ⟨b, 0, none⟩ = some (.pointer (some ⟨b, 0, none⟩)) := by rw [Lib.cell_of_heap hbk]; rfl
  have c1 : w1.cell? ⟨b, 1, none⟩ = some v := by rw [Lib.cell_of_heap hbk]; rfl
  have HU1 := Lib.hid hu1
  clear hu1
  go_wp2_with (at_builtin; refine Lib.wpList_append_own_stringF _ rfl _ _ 34 9 rfl B 5 i0 Tryd.underlying34 Tryd.underlying9 hi hz0 hz1 hz2 _ _ _ rfl hown s rfl ?c3 ?c4 ?c5 ?_)
  case c3 => unfold maxLen; omega
  case c4 => omega
  case c5 => have := hb1.size; omega
  intro v' w2 hown' hgrow _
  have hlt : b < w1.heap.size := (Array.getElem?_eq_some_iff.1 hbk).1
  have hb2 : w2.heap[b]? = some (.cells #[.pointer (some ⟨b, 0, none⟩), v] TB (0, 0)) := (hgrow.block b hlt (fun e => hne e.symm)).trans hbk
  have d0 : w2.cell? ⟨b, 0, none⟩ = some (.pointer (some ⟨b, 0, none⟩)) := by rw [Lib.cell_of_heap hb2]; rfl
  have d1 : w2.cell? ⟨b, 1, none⟩ = some v := by rw [Lib.cell_of_heap hb2]; rfl
  have f1 : w2.frozen? ⟨b, 1, none⟩ = false := Lib.frozen_of_heap hb2 1
  have HU2 := Lib.hid (HU1.out.grown hown hgrow)
  obtain ⟨ao, n', cap, rfl⟩ : ∃ ao n' cap, v' = .slice ao n' cap := by
    rcases hown'.2 with ⟨hv, _⟩ | ⟨g, cap, cur, fz, hv, _⟩
    · exact ⟨_, _, _, hv⟩
    · exact ⟨_, _, _, hv⟩
  go_wp2
  go_ret2
  refine ⟨rfl, ⟨?_, ?_⟩, HU2.out.setCell 1 _⟩
  · exact Lib.BuilderAtF.put (T := TB) (e := TU) hB hb2 (bs' := bs ++ Lib.strCells s) (by simpa [Lib.strCells_length] using hown') (by decide)
  · exact (hb1.grown hgrow (by have := hb1.size; omega) (fun k hk => (hown.lt k hk).1)).setCell (p := ⟨b, 1, none⟩) hB _

/-- what String leaves -/
def StringLeft (B b : Nat) (l : List UInt8) (w w' : World) : Prop := Lib.IsBuilderF TB TU B b (Lib.byteCells l) w' ∧ Below B w w' ∧ KpU b w w'

section
variable {B b g cap : Nat} {p : Value} {w : World}
set_option maxHeartbeats 2000000 in
set_option maxRecDepth 100000 in
theorem string_walk (l : List UInt8) (v ptr : Value) (w1 : World) (hbk : w.heap[b]? = some (.cells #[p, v] TB (0, 0))) (n : Nat) (ao : Option Addr) (hv : v = .slice ao n cap)
    (hSD : (Builtin.unsafeSliceData_ #[34] 125 #[v]).run Tryd.prog w.drew = .ok ptr w1) (hb1 : w1.heap[b]? = some (.cells #[p, v] TB (0, 0))) (w2 : World)
    (hUS : (Builtin.unsafeString_ #[125, 3] 9 #[ptr, .int .i64 n]).run Tryd.prog w1 = .ok (.string ⟨l.toArray⟩) w2) :
    Calls Tryd.prog 49 #[.pointer (some ⟨b, 0, none⟩)] w fun e w' => e = .returned (.string ⟨l.toArray⟩) ∧ w' = w2 := by
  subst hv
  have c0 : w.cell? ⟨b, 1, none⟩ = some (.slice ao n cap) := by rw [Lib.cell_of_heap hbk]; rfl
  have c2 : w.drew.cell? ⟨b, 1, none⟩ = some (.slice ao n cap) := c0
  have c1 : w1.cell? ⟨b, 1, none⟩ = some (.slice ao n cap) := by rw [Lib.cell_of_heap hb1]; rfl
  clear hbk hb1
  go_enter Tryd.func49, Tryd.ntmps49
  go_wp2
  go_region
  all_goals (go_wp2; go_ret; exact ⟨rfl, rfl⟩)

theorem string_kept (l : List UInt8) (h : Lib.IsBuilderF TB TU B b (Lib.byteCells l) w) (hBw : B ≤ w.heap.size) :
    Calls Tryd.prog 49 #[.pointer (some ⟨b, 0, none⟩)] w fun e w' => e = .returned (.string ⟨l.toArray⟩) ∧ StringLeft B b l w w' := by
  obtain ⟨q, hq, hA⟩ : ∃ q, (q = .pointer none ∨ q = .pointer (some ⟨b, 0, none⟩)) ∧ Lib.BuilderAtF TB TU B b q (Lib.byteCells l) w := by
    rcases h with h | h
    · exact ⟨_, .inl rfl, h⟩
    · exact ⟨_, .inr rfl, h⟩
  have fin : ∀ (w' : World), Lib.BuilderAtF TB TU B b q (Lib.byteCells l) w' → Below B w w' → KpU b w w' → StringLeft B b l w w' := by
    intro w' hk hb hu
    rcases hq with rfl | rfl
    · exact ⟨.inl hk, hb, hu⟩
    · exact ⟨.inr hk, hb, hu⟩
  have hA' := hA
  obtain ⟨hB, v, hbk, hown, hne⟩ := hA
  have hlt : b < w.heap.size := (Array.getElem?_eq_some_iff.1 hbk).1
  rw [Lib.byteCells_length] at hown
  rcases hown.2 with ⟨rfl, h0⟩ | ⟨g, cap, cur, fz, rfl, hbg, hg, hfz, hnc, hcm, hcs, htake⟩
  · obtain rfl : l = [] := List.eq_nil_of_length_eq_zero h0
    refine (string_walk [] _ (.pointer none) w.drew hbk 0 none rfl rfl hbk w.drew (Any.unsafeString_none lays169 extra169 w.drew _)).mono ?_
    rintro e w' ⟨rfl, rfl⟩
    exact ⟨rfl, fin _ hA'.drew (Below.drew (Below.refl B w)) (KpU.refl b w)⟩
  · by_cases hl0 : l = []
    · subst hl0
      by_cases hc0 : cap = 0
      · subst hc0
        refine (string_walk [] _ (.pointer (some ⟨w.drew.heap.size, 0, none⟩)) (w.drew.alloc (.view ⟨g, 0, none⟩ TU)) hbk 0 (some ⟨g, 0, none⟩) rfl
          (Lib.run_unsafeSliceData_zero w.drew _ _ TU Tryd.underlying125 ⟨g, 0, none⟩ 0 (TU, cur.size) (by have hg' : w.drew.heap[g]? = some (.cells cur TU fz) := hg; simp [World.shape?, hg']))
          ((Lib.alloc_old w.drew _ b hlt).trans hbk) _ (Any.unsafeString_none lays169 extra169 _ _)).mono ?_
        rintro e w' ⟨rfl, rfl⟩
        exact ⟨rfl, fin _ (hA'.drew.alloc _) ((Below.drew (Below.refl B w)).alloc hBw _) ((KpU.refl b w).drew.alloc _)⟩
      · refine (string_walk [] _ (.pointer (some ⟨g, 0, none⟩)) w.drew hbk 0 (some ⟨g, 0, none⟩) rfl (Lib.run_unsafeSliceData_row _ _ _ _ _ _ hc0) hbk _ (Any.unsafeString_none lays169 extra169 _ _)).mono ?_
        rintro e w' ⟨rfl, rfl⟩
        exact ⟨rfl, fin _ hA'.drew (Below.drew (Below.refl B w)) (KpU.refl b w)⟩
    · have hl0' : l.length ≠ 0 := by simpa using hl0
      have c1 : w.drew.cell? ⟨b, 1, none⟩ = some (.slice (some ⟨g, 0, none⟩) l.length cap) := by
        have : w.drew.heap[b]? = some (.cells #[q, .slice (some ⟨g, 0, none⟩) l.length cap] TB (0, 0)) := hbk
        rw [Lib.cell_of_heap this]; rfl
      refine (string_walk l _ (.pointer (some ⟨g, 0, none⟩)) w.drew hbk l.length (some ⟨g, 0, none⟩) rfl (Lib.run_unsafeSliceData_row _ _ _ _ _ _ (by omega)) hbk (w.drew.freeze ⟨g, 0, none⟩ l.length)
        (Lib.run_unsafeString_row w.drew _ _ _ TU Tryd.underlying125 extra169.cellsByte g cur.size (by have hg' : w.drew.heap[g]? = some (.cells cur TU fz) := hg; simp [World.shape?, hg']) l hl0 (by omega) (by unfold maxLen at hcm; omega) (fun j x hx => by
          have := hown.cells (g := g) rfl j (.int .u8 x.toNat) (by simp [Lib.byteCells, hx])
          exact this))).mono ?_
      rintro e w' ⟨rfl, rfl⟩
      have hF := hA'.drew.froze (g := g) (cap := cap) (by rw [Lib.byteCells_length]; exact c1)
      rw [Lib.byteCells_length] at hF
      exact ⟨rfl, fin _ hF (Lib.below_freeze (Below.drew (Below.refl B w)) (p := ⟨g, 0, none⟩) hbg _) ((KpU.refl b w).drew.freeze (y := w.drew) (cur := cur) (fz := fz) hg)⟩
end
end Go.Proofs.YtoafebndlldclaaDoor
