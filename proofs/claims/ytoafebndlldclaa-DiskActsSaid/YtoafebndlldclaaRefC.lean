/- The calls of the document's disk: SameInts, Dirty, Sync. -/
import Derived.Test.YtoafebndlldclaaRefB
import Derived.BigQuiet
namespace Go.Proofs.Ytoafebndlldclaa.Dk
open Go Go.RowKit Go.ChangeMaps Go.MapKept
variable {W W' : World} {B : RB} {D : DS}

theorem row_slice {w : World} {base : Nat} {e : TypeId} {v : Value} {n : Nat} {xs : List Value} (h : w.ownsRow base e 1 v n xs) : ∃ g A c, v = .slice A n c ∧ (0 < n → A = some ⟨g, 0, none⟩) ∧ ∀ j u, xs[j]? = some u → w.cell? ⟨g, j, none⟩ = some u := by
  have hl := h.1
  rcases h.2 with ⟨rfl, hz⟩ | ⟨q, cap, cur, rfl, hq, hb, k1, k2, k3, k4⟩
  · subst hz
    refine ⟨0, none, 0, rfl, fun h => by omega, fun j u hu => ?_⟩
    have : xs = [] := List.eq_nil_of_length_eq_zero (by omega)
    subst this
    simp at hu
  · refine ⟨q, _, cap, rfl, fun _ => rfl, fun j u hu => ?_⟩
    rw [cell_of_row w q j _ _ _ hb]
    rw [← k4, List.getElem?_take] at hu
    split at hu
    · simpa using hu
    · cases hu

def SameInv (n : Nat) (W : World) (i : Value) (wr : World) : Prop := ∃ j m : Nat, i = .int .i64 j ∧ j ≤ n ∧ wr = W.drewN m

set_option maxRecDepth 100000 in
set_option maxHeartbeats 1000000 in
theorem same_any (W : World) {b1 b2 : Nat} {v1 v2 : Value} {l : List Nat} (hl : l.length ≤ 4096) (h1 : W.ownsRow b1 3 1 v1 l.length (ints l)) (h2 : W.ownsRow b2 3 1 v2 l.length (ints l)) :
    Calls Try.prog 26 #[v1, v2] W fun e w' => e = .returned (.bool true) ∧ ∃ m, w' = W.drewN m := by
  obtain ⟨g1, A1, c1, rfl, e1, k1⟩ := row_slice h1
  obtain ⟨g2, A2, c2, rfl, e2, k2⟩ := row_slice h2
  have HE1 := Lib.hid e1
  have HE2 := Lib.hid e2
  have HK1 := Lib.hid k1
  have HK2 := Lib.hid k2
  clear h1 h2 e1 e2 k1 k2
  go_enter Try.func26, Try.ntmps26
  go_wp2_with fail
  go_loopw [5] (fun i wr => SameInv l.length W i wr) (fun i _ => l.length - (intOf i).toNat)
  case atStart => exact ⟨0, 0, rfl, Nat.zero_le _, rfl⟩
  case round =>
    obtain ⟨j, m, rfl, hj, rfl⟩ := hrel
    by_cases hlt : j < l.length
    · obtain ⟨x, hx⟩ : ∃ x, l[j]? = some x := ⟨_, List.getElem?_eq_getElem hlt⟩
      obtain rfl := HE1.out (by omega)
      obtain rfl := HE2.out (by omega)
      have q1 : W.cell? ⟨g1, j, none⟩ = some (.int .i64 (x : Nat)) := HK1.out j _ (by simp [ints, hx])
      have q2 : W.cell? ⟨g2, j, none⟩ = some (.int .i64 (x : Nat)) := HK2.out j _ (by simp [ints, hx])
      have hji : (j : Int) < (l.length : Int) := by omega
      have hj0 : (0 : Int) ≤ (j : Int) := by omega
      have hl4 : (j : Int) < 4096 := by omega
      clear hx
      go_wp2_with fail
      go_quiet (fail)
      go_wp2_with fail
      go_roundw
      case rel => exact ⟨j + 1, _, by go_num, hlt, rfl⟩
      case measure => simp [intOf]; omega
    · have hje : j = l.length := by omega
      subst hje
      clear hlt
      go_wp2_with fail
      go_ret
      exact ⟨rfl, m, rfl⟩

def RDirtyInv (D : DS) (W : World) (v i : Value) (wr : World) : Prop := ∃ (j : Nat), i = .int .i64 j ∧ j ≤ D.olds.length ∧ wr.ownsRow W.heap.size 3 1 v (dirtyFrom 0 (D.news.take j)).length (ints (dirtyFrom 0 (D.news.take j))) ∧ Below W.heap.size W wr

theorem dirty_snoc (l : List (Option Bs)) (x : Option Bs) : ∀ k, dirtyFrom k (l ++ [x]) = dirtyFrom k l ++ (if x.isSome then [k + l.length] else []) := by
  induction l with
  | nil => intro k; cases x <;> simp [dirtyFrom]
  | cons y l ih =>
    intro k
    cases y with
    | none => simp only [List.cons_append, dirtyFrom, ih, List.length_cons]; rw [show k + 1 + l.length = k + (l.length + 1) from by omega]
    | some s => simp only [List.cons_append, dirtyFrom, ih, List.length_cons]; rw [show k + 1 + l.length = k + (l.length + 1) from by omega]

set_option maxRecDepth 100000 in
set_option maxHeartbeats 2000000 in
theorem rdirty_any (h : IsRef W B D) : Calls Try.prog 27 #[.pointer (some ⟨B.b, 0, none⟩)] W fun e w' => ∃ v, e = .returned v ∧ w'.ownsRow W.heap.size 3 1 v (dirty D).length (ints (dirty D)) ∧ Below W.heap.size W w' := by
  obtain ⟨i0, hi, hz0, hz1, hz2⟩ := info_parts int_info
  have HH := Lib.hid h
  have hn4 : D.olds.length ≤ 4096 := h.ok.hi
  have HL := Lib.hid h.ok.len
  clear h
  go_enter Try.func27, Try.ntmps27
  go_wp2_with fail
  go_loopw [3, 4] (fun v i wr => RDirtyInv D W v i wr) (fun _ i _ => D.olds.length - (intOf i).toNat)
  case atStart => exact ⟨0, rfl, Nat.zero_le _, by rw [List.take_zero]; exact World.ownsRow_made W #[] 0 (Nat.le_refl _) (by decide) rfl, (Below.refl _ _).alloc (Nat.le_refl _) _⟩
  case round =>
    obtain ⟨j, rfl, hj, hown, hbel⟩ := hrel
    have hi2 := HH.out.below hbel
    have c2 := hi2.c2
    by_cases hlt : j < D.olds.length
    · obtain ⟨x, hx⟩ : ∃ x, D.news[j]? = some x := ⟨_, List.getElem?_eq_getElem (by rw [HL.out]; exact hlt)⟩
      have ic := hi2.ic hx
      have hsn : dirtyFrom 0 (D.news.take (j + 1)) = dirtyFrom 0 (D.news.take j) ++ (if x.isSome then [j] else []) := by
        have hlt2 : j < D.news.length := by rw [HL.out]; exact hlt
        rw [List.take_add_one, hx]
        have := dirty_snoc (D.news.take j) x 0
        rw [List.length_take, Nat.min_eq_left (by omega), Nat.zero_add] at this
        exact this
      have hlen : (dirtyFrom 0 (D.news.take j)).length ≤ 4096 := by
        have h1 := dirtyFrom_length (D.news.take j) 0
        rw [List.length_take] at h1
        omega
      have hji : (j : Int) < (D.olds.length : Int) := by omega
      have hj4 : (j : Int) < 4096 := by omega
      have HSN := Lib.hid hsn
      have HBEL := Lib.hid hbel
      clear hx hi2 hsn hbel
      cases x with
      | none =>
        simp only [Option.isSome_none] at ic
        have HOWN := Lib.hid hown
        clear hown
        go_wp2_with fail
        go_roundw
        case rel => exact ⟨j + 1, by go_num, hlt, by have h := HSN.out; simp only [Option.isSome_none, Bool.false_eq_true, if_false, List.append_nil] at h; rw [h]; exact HOWN.out, HBEL.out⟩
        case measure => simp [intOf]; omega
      | some y =>
        simp only [Option.isSome_some] at ic
        go_wp2_with (at_builtin; refine wpList_append_own _ rfl _ _ 29 rfl W.heap.size 3 i0 (.int .i64 0) 1 8 Try.underlying29 hi hz0 hz1 hz2 rfl (by decide) _ _ _ rfl (hown.alloc _) ⟨wr.heap.size, 0, none⟩ 1 1 [.int .i64 (j : Int)] rfl rfl (cell_one_new _ _ _) (by simp [Value.oneCell']) (by unfold maxLen; omega) (by omega) (by have := HBEL.out.size; simp; omega) ?_; intro v' w2 hown2 hgrow2 hnil2)
        have hbel2 := (HBEL.out.alloc HBEL.out.size (.cells #[.int .i64 (j : Int)] 3)).grown hgrow2 (by have := HBEL.out.size; simp; omega) (fun k e => ((hown.alloc (.cells #[.int .i64 (j : Int)] 3)).lt k e).1)
        have HBEL2 := Lib.hid hbel2
        have HOWN2 := Lib.hid hown2
        clear hbel2 hown2 hnil2 hgrow2 hown
        go_wp2_with fail
        go_roundw
        case rel =>
          refine ⟨j + 1, by go_num, hlt, ?_, HBEL2.out⟩
          have h := HSN.out
          simp only [Option.isSome_some, if_true] at h
          rw [h, List.length_append]
          simpa [ints] using HOWN2.out
        case measure => simp [intOf]; omega
    · have hje : j = D.olds.length := by omega
      have HOWN := Lib.hid hown
      have HBEL := Lib.hid hbel
      have hnl : ¬ (j : Int) < (D.olds.length : Int) := by omega
      clear hi2 hown hbel
      go_wp2_with fail
      go_ret
      refine ⟨_, rfl, ?_, HBEL.out⟩
      have h := HOWN.out
      rw [List.take_of_length_le (by rw [HL.out]; omega)] at h
      exact h
end Go.Proofs.Ytoafebndlldclaa.Dk
