/- The call of the law WalAll is proved: it answers true, whatever the texts and the place. -/
import Derived.Test.YtoafebndlldclaaDoorShown19
import Derived.Test.YtoafebndlldclaaDoorAllTx
import Derived.Test.YtoafebndlldclaaDoorDg
import Derived.OpenShut
namespace Go.Proofs.YtoafebndlldclaaDoor.Wl
open Go Go.RowKit Go.Shelf Dk Fr

theorem conv_zeros {W : World} {B : Nat} {MZ : Array Value} (hMZ : MZ = (Lib.byteCells (zeros 8193)).toArray) (zz : ByteArray) (hz : zz = ⟨(zeros 8193).toArray⟩) (hB : W.heap[B]? = some (.cells MZ 5 (0, 0))) :
    (convert 34 9 (.slice (some ⟨B, 0, none⟩) 8193 8193)).run Tryd.prog W = .ok (.string zz) W := by
  subst hz
  have := run_convert_bytes_back (P := Tryd.prog) (w := W) 34 9 5 ⟨B, 0, none⟩ 8193 (zeros 8193) Tryd.underlying34 Tryd.underlying5 Tryd.underlying9 (fun j hj => by
    rw [show (⟨B, 0, none⟩ : Addr).add j = ⟨B, j, none⟩ from by unfold Addr.add; split <;> simp_all]
    rw [cell_of_row W B j _ _ _ hB, hMZ, List.getElem?_toArray]
    simp [Lib.byteCells, List.getElem?_eq_getElem hj])
  rw [zeros_length] at this
  exact this

/-- the world ahead of the first append: an empty row of the call's own, and the texts that are appended -/
structure AW (x : List Bs) (k : Nat) (u : Value) (w3 W0 : World) (N0 : Nat) : Prop where
  tx : Texts W0 w3.heap.size (.slice (some ⟨N0, 0, none⟩) 0 0) []
  rw_ : RowT W0 u (x.take k)
  hz : w3.heap.size ≤ W0.heap.size
  bel : Below w3.heap.size w3 W0
  few : ([] : List Bs).length + (x.take k).length ≤ 1000000
  nn : ∀ c, u = .slice none 0 c → c = 0
theorem AW.of {x : List Bs} {k : Nat} {u : Value} {w3 W0 : World} {N0 : Nat} (hr : RowT w3 u (x.take k)) (hnn : ∀ c, u = .slice none 0 c → c = 0) (hx : x.length ≤ 8) (hN : W0.heap[N0]? = some (.cells #[] 9 (0, 0))) (h0 : w3.heap.size ≤ N0) (hb : Below w3.heap.size w3 W0) : AW x k u w3 W0 N0 :=
  ⟨⟨by simp, .inr ⟨N0, 0, #[], rfl, h0, hN, by simp, by decide, by simp, by simp⟩⟩, hr.kept hb, hb.size, hb, by rw [List.length_take]; simp; omega, hnn⟩
structure AX (x : List Bs) (k : Nat) (w3 w4 : World) (v : Value) : Prop where
  tx : Texts w4 w3.heap.size v (x.take k)
  bel : Below w3.heap.size w3 w4
theorem AW.next {x : List Bs} {k : Nat} {u : Value} {w3 W0 w4 : World} {N0 : Nat} {v : Value} (h : AW x k u w3 W0 N0) (h0 : w3.heap.size ≤ N0) (t : Texts w4 w3.heap.size v ([] ++ x.take k)) (g : W0.grownBy w4 (Value.slice (some ⟨N0, 0, none⟩) 0 0).ownBlock) : AX x k w3 w4 v :=
  ⟨t, h.bel.grown g h.bel.size (fun k e => by have : N0 = k := by simpa [Value.ownBlock] using e
                                              omega)⟩
theorem kept_block {W0 w4 : World} {N0 k : Nat} {o : Obj} (g : W0.grownBy w4 (Value.slice (some ⟨N0, 0, none⟩) 0 0).ownBlock) (h : W0.heap[k]? = some o) (hne : k ≠ N0) : w4.heap[k]? = some o :=
  (g.block k (Array.getElem?_eq_some_iff.1 h).1 (fun e => by have : k = N0 := by simpa [Value.ownBlock] using e
                                                             exact hne this)).trans h
/-- the world ahead of the second append -/
structure AY (x : List Bs) (k : Nat) (w3 w5 : World) (v : Value) (NB : Nat) : Prop where
  tx : Texts w5 w3.heap.size v (x.take k)
  rw_ : RowT w5 (.slice (some ⟨NB, 0, none⟩) 1 1) [zeros 8193]
  hz : w3.heap.size ≤ w5.heap.size
  bel : Below w3.heap.size w3 w5
  few : (x.take k).length + ([zeros 8193] : List Bs).length ≤ 1000000
  nn : ∀ c, Value.slice (some ⟨NB, 0, none⟩) 1 1 = .slice none 0 c → c = 0
theorem AX.of {x : List Bs} {k : Nat} {w3 w4 w5 : World} {v : Value} {NB : Nat} (h : AX x k w3 w4 v) (hx : x.length ≤ 8) (hb : Below w4.heap.size w4 w5) (zz : ByteArray) (hz : zz = ⟨(zeros 8193).toArray⟩) (hB : w5.heap[NB]? = some (.cells #[.string zz] 9 (0, 0))) : AY x k w3 w5 v NB := by
  have hbb := h.bel.trans (hb.mono h.bel.size)
  refine ⟨h.tx.below hb (Nat.le_refl _), ⟨_, 1, rfl, by simp, by decide, fun _ => ⟨NB, 0, rfl, (Array.getElem?_eq_some_iff.1 hB).1, fun i t ht => ?_⟩⟩, hbb.size, hbb, by rw [List.length_take]; simp; omega, fun c e => by cases e⟩
  rw [cell_of_row w5 NB _ _ _ _ hB]
  cases i with
  | zero =>
    simp only [List.getElem?_cons_zero, Option.some.injEq] at ht
    subst ht
    rw [hz]; rfl
  | succ i => simp at ht
/-- behind it -/
structure AZ (x : List Bs) (k : Nat) (w3 : World) (v : Value) (w6 : World) : Prop where
  tx : Texts w6 w3.heap.size v (x.take k ++ [zeros 8193])
  bel : Below w3.heap.size w3 w6
theorem AY.next {x : List Bs} {k : Nat} {w3 w5 w6 : World} {v v' : Value} {NB : Nat} (h : AY x k w3 w5 v NB) (t : Texts w6 w3.heap.size v' (x.take k ++ [zeros 8193])) (g : w5.grownBy w6 v.ownBlock) : AZ x k w3 v' w6 :=
  ⟨t, h.bel.grown g h.bel.size (fun k e => (h.tx.own_text e).1)⟩
theorem hp_new (w : World) (o : Obj) {k : Nat} (h : k = w.heap.size) : (w.alloc o).heap[k]? = some o := by
  subst h
  exact World.alloc_heap_new w o
theorem hp_old {w : World} {x : Obj} {k : Nat} (o : Obj) (h : w.heap[k]? = some x) : (w.alloc o).heap[k]? = some x := by
  have hk := (Array.getElem?_eq_some_iff.1 h).1
  show (w.heap.push o)[k]? = some x
  rw [Array.getElem?_push, if_neg (by omega)]
  exact h

set_option maxRecDepth 100000 in
set_option maxHeartbeats 4000000 in
theorem all_near (v : Value) (l : List Bs) (c : Nat) (W : World) (R : RowT W v l) (hl : l.length ≤ 100) (hs : ∀ t ∈ l, t.length ≤ 9223372036854775807) (hc : c < 256) :
    Calls Tryd.prog 4 #[v, .int .u8 c] W fun e w' => e = .returned (.bool true) ∧ Below W.heap.size W w' := by
  obtain ⟨n, hn⟩ : ∃ n, n = (cutL l).length := ⟨_, rfl⟩
  have hn8 : n ≤ 8 := by rw [hn]; exact cut_len l
  obtain ⟨k, hk⟩ : ∃ k, k = c % (n + 1) := ⟨_, rfl⟩
  have hkn : k ≤ n := by rw [hk]; have := Nat.mod_lt c (show 0 < n + 1 by omega); omega
  have k1 : (c : Int) % ((n : Int) + 1) = (k : Int) := by rw [hk]; simp
  have k2 : (c : Int).tmod ((n : Int) + 1) = (k : Int) := by rw [Int.tmod_eq_emod_of_nonneg (by omega)]; exact k1
  obtain ⟨D1, D2, D3, L1, L2, L3, hS⟩ := all_plain k l
  obtain ⟨aA, cA, rfl⟩ := R.len
  obtain ⟨MZ, hMZ⟩ : ∃ MZ, MZ = (Lib.byteCells (zeros 8193)).toArray := ⟨_, rfl⟩
  obtain ⟨zz, hzz⟩ : ∃ zz : ByteArray, zz = ⟨(zeros 8193).toArray⟩ := ⟨_, rfl⟩
  have h2 : decide (100 < l.length) = false := decide_eq_false (by omega)
  have HSH := Lib.hid (fun w => shown19 w)
  have HS := Lib.hid hS
  have HR := Lib.hid R
  have HSM := Lib.hid hs
  have HN := Lib.hid hn
  have HL100 := Lib.hid hl
  have HMZ := Lib.hid hMZ
  have HZZ := Lib.hid hzz
  clear hS R hs hn hk hMZ hzz
  go_enter Tryd.func4, Tryd.ntmps4
  go_wp2_with fail
  refine (made 300 (by decide) (by decide) W W (Below.refl _ _)).mono ?_
  rintro e w1 ⟨b, g, bm, rfl, h1, _⟩
  have H1 := Lib.hid h1
  clear h1
  go_wp2_with fail
  refine (HSH.out _).mono ?_
  rintro e w1' ⟨rfl, hb⟩
  have C1 := Lib.hid (at_openLog (H1.out.below hb) HS.out.r1)
  clear hb
  go_wp2_with fail
  refine C1.out.mono ?_
  rintro e w2 ⟨lb, v2, rfl, h2', t2, _⟩
  have H2 := Lib.hid h2'
  clear C1 h2' t2
  have C2 := Lib.hid (cut_any (H2.out.row HR.out) (by have := HL100.out; omega) HSM.out)
  go_wp2_with fail
  refine C2.out.mono ?_
  rintro e w3 ⟨v3, rfl, t3, hb3⟩
  have H3 := Lib.hid (H2.out.below hb3)
  obtain ⟨a3, c3, rfl⟩ := t3.len
  have T3 := Lib.hid t3
  rw [← HN.out]
  have hcases : (a3 = none ∧ n = 0 ∧ c3 = 0) ∨ ∃ g3, a3 = some ⟨g3, 0, none⟩ := by
    rcases t3.2 with ⟨e, h0⟩ | ⟨g, cap, cur, e, _⟩
    · injection e with e1 e2 e3
      exact .inl ⟨e1, by rw [HN.out]; exact h0, e3⟩
    · injection e with e1 e2 e3
      exact .inr ⟨g, e1⟩
  have hnc : n ≤ c3 := by
    obtain ⟨a, cap, e, h, _⟩ := t3.row
    injection e with e1 e2 e3
    rw [HN.out, e3]; exact h
  clear C2 t3 hb3
  rcases hcases with ⟨rfl, rfl, rfl⟩ | ⟨g3, rfl⟩
  · obtain rfl : k = 0 := by omega
    have hmk0 := fun w => run_make_row' (P := Tryd.prog) 34 5 (.int .u8 0) 1 Tryd.underlying34 u8_info rfl .i64 .i64 8193 (by decide) (by decide) w
    have hmz : madeCells #[Value.int .u8 0] 8193 = MZ := by
      rw [HMZ.out]
      exact made_bytes 8193
    rw [hmz] at hmk0
    simp only [Int.cast_ofNat_Int] at hmk0
    clear hmz
    go_upto_region 9 with fail
    go_cut [11] from 49 to 57 (fun s11 wx => ∃ v, v = s11 ∧ AZ (cutL l) 0 w3 v wx)
    case first =>
      have HROW : Hid (RowT w3 (.slice none 0 0) ((cutL l).take 0)) := Lib.hid ⟨none, 0, rfl, by simp, by decide, fun h => absurd rfl h⟩
      have HNN : Hid (∀ c, Value.slice none 0 0 = .slice none 0 c → c = 0) := Lib.hid (fun c e => by cases e; rfl)
      have Ao1 : Hid (AW (cutL l) 0 (.slice none 0 0) w3 ((w3.alloc (.cells #[] 9)).drew) w3.heap.size) := Lib.hid (AW.of HROW.out HNN.out (cut_len l) (hp_new _ _ (by simp)) (by omega) (by repeat' first | exact Below.refl _ _ | refine Below.drew ?_ | refine Below.alloc ?_ (by simp <;> omega) _))
      have Ao2 : Hid (AW (cutL l) 0 (.slice none 0 0) w3 (((w3.alloc (.cells #[] 9)).alloc (.cells MZ 5)).drew) w3.heap.size) := Lib.hid (AW.of HROW.out HNN.out (cut_len l) (hp_old _ (hp_new _ _ (by simp))) (by omega) (by repeat' first | exact Below.refl _ _ | refine Below.drew ?_ | refine Below.alloc ?_ (by simp <;> omega) _))
      have Ao4 : Hid (AW (cutL l) 0 (.slice none 0 0) w3 ((((w3.alloc (.cells #[] 9)).alloc (.cells MZ 5)).alloc (.cells #[.string zz] 9)).drew) w3.heap.size) := Lib.hid (AW.of HROW.out HNN.out (cut_len l) (hp_old _ (hp_old _ (hp_new _ _ (by simp)))) (by omega) (by repeat' first | exact Below.refl _ _ | refine Below.drew ?_ | refine Below.alloc ?_ (by simp <;> omega) _))
      have Ao5 : Hid (AW (cutL l) 0 (.slice none 0 0) w3 (((w3.alloc (.cells MZ 5)).alloc (.cells #[] 9)).drew) (w3.heap.size + 1)) := Lib.hid (AW.of HROW.out HNN.out (cut_len l) (hp_new _ _ (by simp)) (by omega) (by repeat' first | exact Below.refl _ _ | refine Below.drew ?_ | refine Below.alloc ?_ (by simp <;> omega) _))
      have Ao7 : Hid (AW (cutL l) 0 (.slice none 0 0) w3 ((((w3.alloc (.cells MZ 5)).alloc (.cells #[] 9)).alloc (.cells #[.string zz] 9)).drew) (w3.heap.size + 1)) := Lib.hid (AW.of HROW.out HNN.out (cut_len l) (hp_old _ (hp_new _ _ (by simp))) (by omega) (by repeat' first | exact Below.refl _ _ | refine Below.drew ?_ | refine Below.alloc ?_ (by simp <;> omega) _))
      have Ao8 : Hid (AW (cutL l) 0 (.slice none 0 0) w3 ((((w3.alloc (.cells MZ 5)).alloc (.cells #[.string zz] 9)).alloc (.cells #[] 9)).drew) (w3.heap.size + 2)) := Lib.hid (AW.of HROW.out HNN.out (cut_len l) (hp_new _ _ (by simp)) (by omega) (by repeat' first | exact Below.refl _ _ | refine Below.drew ?_ | refine Below.alloc ?_ (by simp <;> omega) _))
      have cv1 := conv_zeros HMZ.out zz HZZ.out (show ((w3.alloc (.cells MZ 5)).drew).heap[w3.heap.size]? = some (.cells MZ 5 (0, 0)) from (hp_new _ _ (by simp)))
      have cv2 := conv_zeros HMZ.out zz HZZ.out (show (((w3.alloc (.cells MZ 5)).alloc (.cells #[] 9)).drew).heap[w3.heap.size]? = some (.cells MZ 5 (0, 0)) from (hp_old _ (hp_new _ _ (by simp))))
      have cv3 := conv_zeros HMZ.out zz HZZ.out (show (((w3.alloc (.cells #[] 9)).alloc (.cells MZ 5)).drew).heap[w3.heap.size + 1]? = some (.cells MZ 5 (0, 0)) from (hp_new _ _ (by simp)))
      go_region_law (first
        | (refine step_append_row (w := (w3.alloc (.cells #[] 9)).drew) rfl _ _ rfl w3.heap.size (.slice (some ⟨w3.heap.size, 0, none⟩) 0 0) [] rfl Ao1.out.tx (.slice none 0 0) ((cutL l).take 0) rfl Ao1.out.rw_ Ao1.out.few Ao1.out.hz Ao1.out.nn ?_; intro v53 w4 t53 g53 l53; have F4 := Lib.hid (Ao1.out.next (by omega) t53 g53); have CV := conv_zeros HMZ.out zz HZZ.out (show (w4.alloc (.cells MZ 5)).heap[w4.heap.size]? = some (.cells MZ 5 (0, 0)) from hp_new _ _ rfl); clear t53 g53 l53)
        | (refine step_append_row (w := ((w3.alloc (.cells #[] 9)).alloc (.cells MZ 5)).drew) rfl _ _ rfl w3.heap.size (.slice (some ⟨w3.heap.size, 0, none⟩) 0 0) [] rfl Ao2.out.tx (.slice none 0 0) ((cutL l).take 0) rfl Ao2.out.rw_ Ao2.out.few Ao2.out.hz Ao2.out.nn ?_; intro v53 w4 t53 g53 l53; have F4 := Lib.hid (Ao2.out.next (by omega) t53 g53); have CV := conv_zeros HMZ.out zz HZZ.out (kept_block g53 (show (((w3.alloc (.cells #[] 9)).alloc (.cells MZ 5)).drew).heap[(w3.heap.size + 1)]? = some (.cells MZ 5 (0, 0)) from (hp_new _ _ (by simp))) (by omega)); clear t53 g53 l53)
        | (refine step_append_row (w := (((w3.alloc (.cells #[] 9)).alloc (.cells MZ 5)).alloc (.cells #[.string zz] 9)).drew) rfl _ _ rfl w3.heap.size (.slice (some ⟨w3.heap.size, 0, none⟩) 0 0) [] rfl Ao4.out.tx (.slice none 0 0) ((cutL l).take 0) rfl Ao4.out.rw_ Ao4.out.few Ao4.out.hz Ao4.out.nn ?_; intro v53 w4 t53 g53 l53; have F4 := Lib.hid (Ao4.out.next (by omega) t53 g53); have SB : Hid (w4.heap[(w3.heap.size + 2)]? = some (.cells #[.string zz] 9 (0, 0))) := Lib.hid (kept_block g53 (show ((((w3.alloc (.cells #[] 9)).alloc (.cells MZ 5)).alloc (.cells #[.string zz] 9)).drew).heap[(w3.heap.size + 2)]? = some (.cells #[.string zz] 9 (0, 0)) from (hp_new _ _ (by simp))) (by omega)); clear t53 g53 l53)
        | (refine step_append_row (w := ((w3.alloc (.cells MZ 5)).alloc (.cells #[] 9)).drew) rfl _ _ rfl w3.heap.size (.slice (some ⟨(w3.heap.size + 1), 0, none⟩) 0 0) [] rfl Ao5.out.tx (.slice none 0 0) ((cutL l).take 0) rfl Ao5.out.rw_ Ao5.out.few Ao5.out.hz Ao5.out.nn ?_; intro v53 w4 t53 g53 l53; have F4 := Lib.hid (Ao5.out.next (by omega) t53 g53); have CV := conv_zeros HMZ.out zz HZZ.out (kept_block g53 (show (((w3.alloc (.cells MZ 5)).alloc (.cells #[] 9)).drew).heap[w3.heap.size]? = some (.cells MZ 5 (0, 0)) from (hp_old _ (hp_new _ _ (by simp)))) (by omega)); clear t53 g53 l53)
        | (refine step_append_row (w := (((w3.alloc (.cells MZ 5)).alloc (.cells #[] 9)).alloc (.cells #[.string zz] 9)).drew) rfl _ _ rfl w3.heap.size (.slice (some ⟨(w3.heap.size + 1), 0, none⟩) 0 0) [] rfl Ao7.out.tx (.slice none 0 0) ((cutL l).take 0) rfl Ao7.out.rw_ Ao7.out.few Ao7.out.hz Ao7.out.nn ?_; intro v53 w4 t53 g53 l53; have F4 := Lib.hid (Ao7.out.next (by omega) t53 g53); have SB : Hid (w4.heap[(w3.heap.size + 2)]? = some (.cells #[.string zz] 9 (0, 0))) := Lib.hid (kept_block g53 (show ((((w3.alloc (.cells MZ 5)).alloc (.cells #[] 9)).alloc (.cells #[.string zz] 9)).drew).heap[(w3.heap.size + 2)]? = some (.cells #[.string zz] 9 (0, 0)) from (hp_new _ _ (by simp))) (by omega)); clear t53 g53 l53)
        | (refine step_append_row (w := (((w3.alloc (.cells MZ 5)).alloc (.cells #[.string zz] 9)).alloc (.cells #[] 9)).drew) rfl _ _ rfl w3.heap.size (.slice (some ⟨(w3.heap.size + 2), 0, none⟩) 0 0) [] rfl Ao8.out.tx (.slice none 0 0) ((cutL l).take 0) rfl Ao8.out.rw_ Ao8.out.few Ao8.out.hz Ao8.out.nn ?_; intro v53 w4 t53 g53 l53; have F4 := Lib.hid (Ao8.out.next (by omega) t53 g53); have SB : Hid (w4.heap[(w3.heap.size + 1)]? = some (.cells #[.string zz] 9 (0, 0))) := Lib.hid (kept_block g53 (show ((((w3.alloc (.cells MZ 5)).alloc (.cells #[.string zz] 9)).alloc (.cells #[] 9)).drew).heap[(w3.heap.size + 1)]? = some (.cells #[.string zz] 9 (0, 0)) from (hp_old _ (hp_new _ _ (by simp)))) (by omega)); clear t53 g53 l53)
        | (have Y := Lib.hid (F4.out.of (w5 := (w4.alloc (.cells MZ 5)).alloc (.cells #[.string zz] 9)) (NB := (w4.heap.size + 1)) (cut_len l) ((Below.alloc (Below.refl _ w4) (Nat.le_refl _) _).alloc (by simp) _) zz HZZ.out (hp_new _ _ (by simp))); refine step_append_row (w := (w4.alloc (.cells MZ 5)).alloc (.cells #[.string zz] 9)) rfl _ _ rfl w3.heap.size v53 ((cutL l).take 0) rfl Y.out.tx (.slice (some ⟨(w4.heap.size + 1), 0, none⟩) 1 1) [zeros 8193] rfl Y.out.rw_ Y.out.few Y.out.hz Y.out.nn ?_; intro v57 w6 t57 g57 l57; have F6 := Lib.hid (Y.out.next t57 g57); clear t57 g57 l57 Y)
        | (have Y := Lib.hid (F4.out.of (w5 := w4.alloc (.cells #[.string zz] 9)) (NB := w4.heap.size) (cut_len l) (Below.alloc (Below.refl _ w4) (Nat.le_refl _) _) zz HZZ.out (hp_new _ _ rfl)); refine step_append_row (w := w4.alloc (.cells #[.string zz] 9)) rfl _ _ rfl w3.heap.size v53 ((cutL l).take 0) rfl Y.out.tx (.slice (some ⟨w4.heap.size, 0, none⟩) 1 1) [zeros 8193] rfl Y.out.rw_ Y.out.few Y.out.hz Y.out.nn ?_; intro v57 w6 t57 g57 l57; have F6 := Lib.hid (Y.out.next t57 g57); clear t57 g57 l57 Y)
        | (have Y := Lib.hid (F4.out.of (w5 := w4) (NB := (w3.heap.size + 2)) (cut_len l) (Below.refl _ w4) zz HZZ.out SB.out); refine step_append_row (w := w4) rfl _ _ rfl w3.heap.size v53 ((cutL l).take 0) rfl Y.out.tx (.slice (some ⟨(w3.heap.size + 2), 0, none⟩) 1 1) [zeros 8193] rfl Y.out.rw_ Y.out.few Y.out.hz Y.out.nn ?_; intro v57 w6 t57 g57 l57; have F6 := Lib.hid (Y.out.next t57 g57); clear t57 g57 l57 Y)
        | (have Y := Lib.hid (F4.out.of (w5 := w4) (NB := (w3.heap.size + 1)) (cut_len l) (Below.refl _ w4) zz HZZ.out SB.out); refine step_append_row (w := w4) rfl _ _ rfl w3.heap.size v53 ((cutL l).take 0) rfl Y.out.tx (.slice (some ⟨(w3.heap.size + 1), 0, none⟩) 1 1) [zeros 8193] rfl Y.out.rw_ Y.out.few Y.out.hz Y.out.nn ?_; intro v57 w6 t57 g57 l57; have F6 := Lib.hid (Y.out.next t57 g57); clear t57 g57 l57 Y))
      all_goals (go_wp2_with fail; go_meet; exact ⟨_, rfl, F6.out⟩)
    case rest =>
      obtain ⟨s11, rfl, tx, bx⟩ := hcut
      have TX := Lib.hid tx
      have BX := Lib.hid bx
      have HX := Lib.hid (H3.out.below bx)
      have XX := Lib.hid (T3.out.below bx (Nat.le_refl _))
      have hrow := XX.out.row
      rw [← HN.out] at hrow
      have hzx : w3.heap.size ≤ wc.heap.size := bx.size
      have HLX : Hid (((cutL l).take 0 ++ [zeros 8193]).length + ((cutL l).drop 0).length ≤ 1000000) := Lib.hid (by have := cut_len l; simp only [List.length_append, List.length_take, List.length_drop, List.length_cons, List.length_nil]; omega)
      clear tx bx hmk0
      have HRW : Hid (RowT wc (.slice none 0 0) ((cutL l).drop 0)) := Lib.hid ⟨_, 0, by rw [List.drop_eq_nil_of_le (by rw [← HN.out]; omega)]; rfl, by rw [List.drop_eq_nil_of_le (by rw [← HN.out]; omega)]; simp, by decide, fun hne => absurd (List.drop_eq_nil_of_le (by rw [← HN.out]; omega)) hne⟩
      clear hrow
      go_wp2_with (refine wpList_append_row rfl _ _ rfl w3.heap.size s11 ((cutL l).take 0 ++ [zeros 8193]) rfl TX.out _ ((cutL l).drop 0) rfl HRW.out HLX.out hzx (fun c e => by cases e; rfl) ?_; intro v6 w6 t6 g6 l6; have T6 := Lib.hid t6; have G6 := Lib.hid g6; clear t6 g6 l6)
      have H6 := Lib.hid (HX.out.grown G6.out (fun k hk => ⟨Nat.le_trans H3.out.at_.bel.size (TX.out.own_text hk).1, HX.out.notText (TX.out.own_text hk).2⟩))
      have X6 : Hid (Texts w6 w2.heap.size (.slice none (cutL l).length 0) (cutL l)) := Lib.hid (World.ownsRow.kept XX.out G6.out (.inl rfl))
      obtain ⟨bad, hbad⟩ : ∃ bad, bad = (cutL l).take 0 ++ [zeros 8193] ++ (cutL l).drop 0 := ⟨_, rfl⟩
      rw [← hbad] at T6
      have hr2 := HS.out.r2
      rw [← hbad] at hr2
      have hbl : bad.length ≤ 1000 := by
        have := cut_len l
        rw [hbad]
        simp only [List.length_append, List.length_take, List.length_drop, List.length_cons, List.length_nil]
        omega
      have HR2 := Lib.hid hr2
      obtain ⟨a6, c6, rfl⟩ := T6.out.len
      clear hr2 hbad
      have C7 := Lib.hid (room_any H6.out.log _ HS.out.s1)
      go_wp2_with fail
      refine C7.out.mono ?_
      rintro e w7 ⟨rfl, hb7⟩
      have H7 := Lib.hid (H6.out.below hb7)
      have X7 := Lib.hid (X6.out.below hb7 (Nat.le_refl _))
      have C8 := Lib.hid (H7.out.append HS.out.s1 _ _ ((T6.out.below hb7 (Nat.le_refl _)).row) hbl HR2.out)
      clear C7 hb7 T6 G6
      go_wp2_with fail
      refine C8.out.mono ?_
      rintro e w8 ⟨rfl, h8, k8⟩
      have H8 := Lib.hid h8
      have X8 := Lib.hid (X7.out.kp k8 (fun _ _ _ hs => H7.out.notText hs))
      have c9 := len_log h8.log (by rw [HS.out.many]; omega)
      rw [HS.out.many] at c9
      have C9 := Lib.hid c9
      have C10 := Lib.hid (room_any h8.log _ HS.out.s1)
      clear C8 h8 k8 c9
      go_wp2_with fail
      refine C9.out.mono ?_
      rintro e w9 ⟨rfl, rfl⟩
      go_wp2_with fail
      refine C10.out.mono ?_
      rintro e w9 ⟨rfl, hb9⟩
      have H9 := Lib.hid (H8.out.below hb9)
      have X9 := Lib.hid (X8.out.below hb9 (Nat.le_refl _))
      have c11 := H9.out.append HS.out.s1 _ _ X9.out.row (by have := cut_len l; omega) HS.out.r3
      rw [← HN.out] at c11
      have C11 := Lib.hid c11
      clear C9 C10 hb9 c11
      go_wp2_with fail
      refine C11.out.mono ?_
      rintro e w10 ⟨rfl, h10, k10⟩
      have H10 := Lib.hid h10
      have X10 := Lib.hid (X9.out.kp k10 (fun _ _ _ hs => H9.out.notText hs))
      have C12 := Lib.hid (at_openLog h10.at_ HS.out.r4)
      clear C11 h10 k10
      go_wp2_with fail
      refine C12.out.mono ?_
      rintro e w11 ⟨lb11, v11, rfl, h11, t11, k11, _⟩
      obtain ⟨a11, c11, rfl⟩ := t11.len
      have HL11 := Lib.hid (H10.out.disk h11.at_ k11)
      have X11 := Lib.hid (X10.out.kp k11 (fun _ _ _ hs => at_notText H10.out.at_ hs))
      have c13 := prefix19 X11.out.row t11.row (by have := cut_len l; omega)
      rw [show prefB (cutL l) (cutL l) = true from by unfold prefB; simp, ← HN.out] at c13
      have C13 := Lib.hid c13
      rw [← HN.out]
      clear C12 h11 t11 k11 c13
      go_wp2_with fail
      refine C13.out.mono ?_
      rintro e w12 ⟨rfl, hb12⟩
      have HL12 := Lib.hid (HL11.out.below hb12)
      have X12 := Lib.hid (X11.out.below hb12 (Nat.le_refl _))
      have c14 := room_any HL12.out.log _ HS.out.s2
      rw [HS.out.room] at c14
      have C14 := Lib.hid c14
      clear C13 hb12 c14
      go_wp2_with fail
      refine C14.out.mono ?_
      rintro e w13 ⟨rfl, hb13⟩
      have HL13 := Lib.hid (HL12.out.below hb13)
      have c15 := size19 ((X12.out.below hb13 (Nat.le_refl _)).row) (by have := szs_cut l; omega)
      rw [← HN.out] at c15
      have C15 := Lib.hid c15
      clear C14 hb13 c15
      have hsz := szs_cut l
      have hr0 : IntKind.i64.wrap (L1.room - ((szs (cutL l) : Nat) : Int)) = L1.room - ((szs (cutL l) : Nat) : Int) := IntWalk.i64_in _ (by have := HS.out.s1.en; have := HS.out.s1.hi; have := HS.out.s1.n4; have := HS.out.s1.lt; unfold LS.room; omega)
      go_wp2_with fail
      refine C15.out.mono ?_
      rintro e w14 ⟨rfl, hb14⟩
      have HB := Lib.hid (HL13.out.below hb14).at_.bel
      clear C15 hb14
      go_wp2
      go_ret
      exact ⟨rfl, HB.out⟩
  · have hkc : k ≤ c3 := by omega
    have hmk0 := fun w => run_make_row' (P := Tryd.prog) 34 5 (.int .u8 0) 1 Tryd.underlying34 u8_info rfl .i64 .i64 8193 (by decide) (by decide) w
    have hmz : madeCells #[Value.int .u8 0] 8193 = MZ := by
      rw [HMZ.out]
      exact made_bytes 8193
    rw [hmz] at hmk0
    simp only [Int.cast_ofNat_Int] at hmk0
    clear hmz
    go_upto_region 9 with fail
    go_cut [11] from 49 to 57 (fun s11 wx => ∃ v, v = s11 ∧ AZ (cutL l) k w3 v wx)
    case first =>
      have hrow0 := T3.out.row
      rw [← HN.out] at hrow0
      have HROW := Lib.hid (row_take hrow0 k (by rw [← HN.out]; exact hkn))
      have HNN : Hid (∀ c, Value.slice (some ⟨g3, 0, none⟩) k c3 = .slice none 0 c → c = 0) := Lib.hid (fun c e => by cases e)
      clear hrow0
      have Ao1 : Hid (AW (cutL l) k (.slice (some ⟨g3, 0, none⟩) k c3) w3 ((w3.alloc (.cells #[] 9)).drew) w3.heap.size) := Lib.hid (AW.of HROW.out HNN.out (cut_len l) (hp_new _ _ (by simp)) (by omega) (by repeat' first | exact Below.refl _ _ | refine Below.drew ?_ | refine Below.alloc ?_ (by simp <;> omega) _))
      have Ao2 : Hid (AW (cutL l) k (.slice (some ⟨g3, 0, none⟩) k c3) w3 (((w3.alloc (.cells #[] 9)).alloc (.cells MZ 5)).drew) w3.heap.size) := Lib.hid (AW.of HROW.out HNN.out (cut_len l) (hp_old _ (hp_new _ _ (by simp))) (by omega) (by repeat' first | exact Below.refl _ _ | refine Below.drew ?_ | refine Below.alloc ?_ (by simp <;> omega) _))
      have Ao4 : Hid (AW (cutL l) k (.slice (some ⟨g3, 0, none⟩) k c3) w3 ((((w3.alloc (.cells #[] 9)).alloc (.cells MZ 5)).alloc (.cells #[.string zz] 9)).drew) w3.heap.size) := Lib.hid (AW.of HROW.out HNN.out (cut_len l) (hp_old _ (hp_old _ (hp_new _ _ (by simp)))) (by omega) (by repeat' first | exact Below.refl _ _ | refine Below.drew ?_ | refine Below.alloc ?_ (by simp <;> omega) _))
      have Ao5 : Hid (AW (cutL l) k (.slice (some ⟨g3, 0, none⟩) k c3) w3 (((w3.alloc (.cells MZ 5)).alloc (.cells #[] 9)).drew) (w3.heap.size + 1)) := Lib.hid (AW.of HROW.out HNN.out (cut_len l) (hp_new _ _ (by simp)) (by omega) (by repeat' first | exact Below.refl _ _ | refine Below.drew ?_ | refine Below.alloc ?_ (by simp <;> omega) _))
      have Ao7 : Hid (AW (cutL l) k (.slice (some ⟨g3, 0, none⟩) k c3) w3 ((((w3.alloc (.cells MZ 5)).alloc (.cells #[] 9)).alloc (.cells #[.string zz] 9)).drew) (w3.heap.size + 1)) := Lib.hid (AW.of HROW.out HNN.out (cut_len l) (hp_old _ (hp_new _ _ (by simp))) (by omega) (by repeat' first | exact Below.refl _ _ | refine Below.drew ?_ | refine Below.alloc ?_ (by simp <;> omega) _))
      have Ao8 : Hid (AW (cutL l) k (.slice (some ⟨g3, 0, none⟩) k c3) w3 ((((w3.alloc (.cells MZ 5)).alloc (.cells #[.string zz] 9)).alloc (.cells #[] 9)).drew) (w3.heap.size + 2)) := Lib.hid (AW.of HROW.out HNN.out (cut_len l) (hp_new _ _ (by simp)) (by omega) (by repeat' first | exact Below.refl _ _ | refine Below.drew ?_ | refine Below.alloc ?_ (by simp <;> omega) _))
      have cv1 := conv_zeros HMZ.out zz HZZ.out (show ((w3.alloc (.cells MZ 5)).drew).heap[w3.heap.size]? = some (.cells MZ 5 (0, 0)) from (hp_new _ _ (by simp)))
      have cv2 := conv_zeros HMZ.out zz HZZ.out (show (((w3.alloc (.cells MZ 5)).alloc (.cells #[] 9)).drew).heap[w3.heap.size]? = some (.cells MZ 5 (0, 0)) from (hp_old _ (hp_new _ _ (by simp))))
      have cv3 := conv_zeros HMZ.out zz HZZ.out (show (((w3.alloc (.cells #[] 9)).alloc (.cells MZ 5)).drew).heap[w3.heap.size + 1]? = some (.cells MZ 5 (0, 0)) from (hp_new _ _ (by simp)))
      go_region_law (first
        | (refine step_append_row (w := (w3.alloc (.cells #[] 9)).drew) rfl _ _ rfl w3.heap.size (.slice (some ⟨w3.heap.size, 0, none⟩) 0 0) [] rfl Ao1.out.tx (.slice (some ⟨g3, 0, none⟩) k c3) ((cutL l).take k) rfl Ao1.out.rw_ Ao1.out.few Ao1.out.hz Ao1.out.nn ?_; intro v53 w4 t53 g53 l53; have F4 := Lib.hid (Ao1.out.next (by omega) t53 g53); have CV := conv_zeros HMZ.out zz HZZ.out (show (w4.alloc (.cells MZ 5)).heap[w4.heap.size]? = some (.cells MZ 5 (0, 0)) from hp_new _ _ rfl); clear t53 g53 l53)
        | (refine step_append_row (w := ((w3.alloc (.cells #[] 9)).alloc (.cells MZ 5)).drew) rfl _ _ rfl w3.heap.size (.slice (some ⟨w3.heap.size, 0, none⟩) 0 0) [] rfl Ao2.out.tx (.slice (some ⟨g3, 0, none⟩) k c3) ((cutL l).take k) rfl Ao2.out.rw_ Ao2.out.few Ao2.out.hz Ao2.out.nn ?_; intro v53 w4 t53 g53 l53; have F4 := Lib.hid (Ao2.out.next (by omega) t53 g53); have CV := conv_zeros HMZ.out zz HZZ.out (kept_block g53 (show (((w3.alloc (.cells #[] 9)).alloc (.cells MZ 5)).drew).heap[(w3.heap.size + 1)]? = some (.cells MZ 5 (0, 0)) from (hp_new _ _ (by simp))) (by omega)); clear t53 g53 l53)
        | (refine step_append_row (w := (((w3.alloc (.cells #[] 9)).alloc (.cells MZ 5)).alloc (.cells #[.string zz] 9)).drew) rfl _ _ rfl w3.heap.size (.slice (some ⟨w3.heap.size, 0, none⟩) 0 0) [] rfl Ao4.out.tx (.slice (some ⟨g3, 0, none⟩) k c3) ((cutL l).take k) rfl Ao4.out.rw_ Ao4.out.few Ao4.out.hz Ao4.out.nn ?_; intro v53 w4 t53 g53 l53; have F4 := Lib.hid (Ao4.out.next (by omega) t53 g53); have SB : Hid (w4.heap[(w3.heap.size + 2)]? = some (.cells #[.string zz] 9 (0, 0))) := Lib.hid (kept_block g53 (show ((((w3.alloc (.cells #[] 9)).alloc (.cells MZ 5)).alloc (.cells #[.string zz] 9)).drew).heap[(w3.heap.size + 2)]? = some (.cells #[.string zz] 9 (0, 0)) from (hp_new _ _ (by simp))) (by omega)); clear t53 g53 l53)
        | (refine step_append_row (w := ((w3.alloc (.cells MZ 5)).alloc (.cells #[] 9)).drew) rfl _ _ rfl w3.heap.size (.slice (some ⟨(w3.heap.size + 1), 0, none⟩) 0 0) [] rfl Ao5.out.tx (.slice (some ⟨g3, 0, none⟩) k c3) ((cutL l).take k) rfl Ao5.out.rw_ Ao5.out.few Ao5.out.hz Ao5.out.nn ?_; intro v53 w4 t53 g53 l53; have F4 := Lib.hid (Ao5.out.next (by omega) t53 g53); have CV := conv_zeros HMZ.out zz HZZ.out (kept_block g53 (show (((w3.alloc (.cells MZ 5)).alloc (.cells #[] 9)).drew).heap[w3.heap.size]? = some (.cells MZ 5 (0, 0)) from (hp_old _ (hp_new _ _ (by simp)))) (by omega)); clear t53 g53 l53)
        | (refine step_append_row (w := (((w3.alloc (.cells MZ 5)).alloc (.cells #[] 9)).alloc (.cells #[.string zz] 9)).drew) rfl _ _ rfl w3.heap.size (.slice (some ⟨(w3.heap.size + 1), 0, none⟩) 0 0) [] rfl Ao7.out.tx (.slice (some ⟨g3, 0, none⟩) k c3) ((cutL l).take k) rfl Ao7.out.rw_ Ao7.out.few Ao7.out.hz Ao7.out.nn ?_; intro v53 w4 t53 g53 l53; have F4 := Lib.hid (Ao7.out.next (by omega) t53 g53); have SB : Hid (w4.heap[(w3.heap.size + 2)]? = some (.cells #[.string zz] 9 (0, 0))) := Lib.hid (kept_block g53 (show ((((w3.alloc (.cells MZ 5)).alloc (.cells #[] 9)).alloc (.cells #[.string zz] 9)).drew).heap[(w3.heap.size + 2)]? = some (.cells #[.string zz] 9 (0, 0)) from (hp_new _ _ (by simp))) (by omega)); clear t53 g53 l53)
        | (refine step_append_row (w := (((w3.alloc (.cells MZ 5)).alloc (.cells #[.string zz] 9)).alloc (.cells #[] 9)).drew) rfl _ _ rfl w3.heap.size (.slice (some ⟨(w3.heap.size + 2), 0, none⟩) 0 0) [] rfl Ao8.out.tx (.slice (some ⟨g3, 0, none⟩) k c3) ((cutL l).take k) rfl Ao8.out.rw_ Ao8.out.few Ao8.out.hz Ao8.out.nn ?_; intro v53 w4 t53 g53 l53; have F4 := Lib.hid (Ao8.out.next (by omega) t53 g53); have SB : Hid (w4.heap[(w3.heap.size + 1)]? = some (.cells #[.string zz] 9 (0, 0))) := Lib.hid (kept_block g53 (show ((((w3.alloc (.cells MZ 5)).alloc (.cells #[.string zz] 9)).alloc (.cells #[] 9)).drew).heap[(w3.heap.size + 1)]? = some (.cells #[.string zz] 9 (0, 0)) from (hp_old _ (hp_new _ _ (by simp)))) (by omega)); clear t53 g53 l53)
        | (have Y := Lib.hid (F4.out.of (w5 := (w4.alloc (.cells MZ 5)).alloc (.cells #[.string zz] 9)) (NB := (w4.heap.size + 1)) (cut_len l) ((Below.alloc (Below.refl _ w4) (Nat.le_refl _) _).alloc (by simp) _) zz HZZ.out (hp_new _ _ (by simp))); refine step_append_row (w := (w4.alloc (.cells MZ 5)).alloc (.cells #[.string zz] 9)) rfl _ _ rfl w3.heap.size v53 ((cutL l).take k) rfl Y.out.tx (.slice (some ⟨(w4.heap.size + 1), 0, none⟩) 1 1) [zeros 8193] rfl Y.out.rw_ Y.out.few Y.out.hz Y.out.nn ?_; intro v57 w6 t57 g57 l57; have F6 := Lib.hid (Y.out.next t57 g57); clear t57 g57 l57 Y)
        | (have Y := Lib.hid (F4.out.of (w5 := w4.alloc (.cells #[.string zz] 9)) (NB := w4.heap.size) (cut_len l) (Below.alloc (Below.refl _ w4) (Nat.le_refl _) _) zz HZZ.out (hp_new _ _ rfl)); refine step_append_row (w := w4.alloc (.cells #[.string zz] 9)) rfl _ _ rfl w3.heap.size v53 ((cutL l).take k) rfl Y.out.tx (.slice (some ⟨w4.heap.size, 0, none⟩) 1 1) [zeros 8193] rfl Y.out.rw_ Y.out.few Y.out.hz Y.out.nn ?_; intro v57 w6 t57 g57 l57; have F6 := Lib.hid (Y.out.next t57 g57); clear t57 g57 l57 Y)
        | (have Y := Lib.hid (F4.out.of (w5 := w4) (NB := (w3.heap.size + 2)) (cut_len l) (Below.refl _ w4) zz HZZ.out SB.out); refine step_append_row (w := w4) rfl _ _ rfl w3.heap.size v53 ((cutL l).take k) rfl Y.out.tx (.slice (some ⟨(w3.heap.size + 2), 0, none⟩) 1 1) [zeros 8193] rfl Y.out.rw_ Y.out.few Y.out.hz Y.out.nn ?_; intro v57 w6 t57 g57 l57; have F6 := Lib.hid (Y.out.next t57 g57); clear t57 g57 l57 Y)
        | (have Y := Lib.hid (F4.out.of (w5 := w4) (NB := (w3.heap.size + 1)) (cut_len l) (Below.refl _ w4) zz HZZ.out SB.out); refine step_append_row (w := w4) rfl _ _ rfl w3.heap.size v53 ((cutL l).take k) rfl Y.out.tx (.slice (some ⟨(w3.heap.size + 1), 0, none⟩) 1 1) [zeros 8193] rfl Y.out.rw_ Y.out.few Y.out.hz Y.out.nn ?_; intro v57 w6 t57 g57 l57; have F6 := Lib.hid (Y.out.next t57 g57); clear t57 g57 l57 Y))
      all_goals (go_wp2_with fail; go_meet; exact ⟨_, rfl, F6.out⟩)
    case rest =>
      obtain ⟨s11, rfl, tx, bx⟩ := hcut
      have TX := Lib.hid tx
      have BX := Lib.hid bx
      have HX := Lib.hid (H3.out.below bx)
      have XX := Lib.hid (T3.out.below bx (Nat.le_refl _))
      have hrow := XX.out.row
      rw [← HN.out] at hrow
      have hzx : w3.heap.size ≤ wc.heap.size := bx.size
      have HLX : Hid (((cutL l).take k ++ [zeros 8193]).length + ((cutL l).drop k).length ≤ 1000000) := Lib.hid (by have := cut_len l; simp only [List.length_append, List.length_take, List.length_drop, List.length_cons, List.length_nil]; omega)
      clear tx bx hmk0
      have hki : (k : Int) ≤ (n : Int) := by omega
      have hkci : (k : Int) ≤ (c3 : Int) := by omega
      by_cases hck : c3 = k
      · obtain rfl : n = k := by omega
        obtain rfl : n = c3 := hck.symm
        have HRW : Hid (RowT wc (.slice (some ⟨g3, 0, none⟩) 0 0) ((cutL l).drop n)) := Lib.hid ⟨_, 0, by rw [List.drop_eq_nil_of_le (by rw [← HN.out]; omega)]; rfl, by rw [List.drop_eq_nil_of_le (by rw [← HN.out]; omega)]; simp, by decide, fun hne => absurd (List.drop_eq_nil_of_le (by rw [← HN.out]; omega)) hne⟩
        clear hrow
        go_wp2_with (refine wpList_append_row rfl _ _ rfl w3.heap.size s11 ((cutL l).take n ++ [zeros 8193]) rfl TX.out _ ((cutL l).drop n) rfl HRW.out HLX.out hzx (fun c e => by cases e) ?_; intro v6 w6 t6 g6 l6; have T6 := Lib.hid t6; have G6 := Lib.hid g6; clear t6 g6 l6)
        have H6 := Lib.hid (HX.out.grown G6.out (fun k hk => ⟨Nat.le_trans H3.out.at_.bel.size (TX.out.own_text hk).1, HX.out.notText (TX.out.own_text hk).2⟩))
        have X6 : Hid (Texts w6 w2.heap.size (.slice (some ⟨g3, 0, none⟩) (cutL l).length n) (cutL l)) := Lib.hid (World.ownsRow.kept XX.out G6.out (.inr (fun e => by have h1 : w3.heap.size ≤ g3 := (TX.out.own_text (k := g3) e.symm).1; have h2 : g3 < w3.heap.size := (World.ownsRow.lt T3.out g3 rfl).2; omega)))
        obtain ⟨bad, hbad⟩ : ∃ bad, bad = (cutL l).take n ++ [zeros 8193] ++ (cutL l).drop n := ⟨_, rfl⟩
        rw [← hbad] at T6
        have hr2 := HS.out.r2
        rw [← hbad] at hr2
        have hbl : bad.length ≤ 1000 := by
          have := cut_len l
          rw [hbad]
          simp only [List.length_append, List.length_take, List.length_drop, List.length_cons, List.length_nil]
          omega
        have HR2 := Lib.hid hr2
        obtain ⟨a6, c6, rfl⟩ := T6.out.len
        clear hr2 hbad
        have C7 := Lib.hid (room_any H6.out.log _ HS.out.s1)
        go_wp2_with fail
        refine C7.out.mono ?_
        rintro e w7 ⟨rfl, hb7⟩
        have H7 := Lib.hid (H6.out.below hb7)
        have X7 := Lib.hid (X6.out.below hb7 (Nat.le_refl _))
        have C8 := Lib.hid (H7.out.append HS.out.s1 _ _ ((T6.out.below hb7 (Nat.le_refl _)).row) hbl HR2.out)
        clear C7 hb7 T6 G6
        go_wp2_with fail
        refine C8.out.mono ?_
        rintro e w8 ⟨rfl, h8, k8⟩
        have H8 := Lib.hid h8
        have X8 := Lib.hid (X7.out.kp k8 (fun _ _ _ hs => H7.out.notText hs))
        have c9 := len_log h8.log (by rw [HS.out.many]; omega)
        rw [HS.out.many] at c9
        have C9 := Lib.hid c9
        have C10 := Lib.hid (room_any h8.log _ HS.out.s1)
        clear C8 h8 k8 c9
        go_wp2_with fail
        refine C9.out.mono ?_
        rintro e w9 ⟨rfl, rfl⟩
        go_wp2_with fail
        refine C10.out.mono ?_
        rintro e w9 ⟨rfl, hb9⟩
        have H9 := Lib.hid (H8.out.below hb9)
        have X9 := Lib.hid (X8.out.below hb9 (Nat.le_refl _))
        have c11 := H9.out.append HS.out.s1 _ _ X9.out.row (by have := cut_len l; omega) HS.out.r3
        rw [← HN.out] at c11
        have C11 := Lib.hid c11
        clear C9 C10 hb9 c11
        go_wp2_with fail
        refine C11.out.mono ?_
        rintro e w10 ⟨rfl, h10, k10⟩
        have H10 := Lib.hid h10
        have X10 := Lib.hid (X9.out.kp k10 (fun _ _ _ hs => H9.out.notText hs))
        have C12 := Lib.hid (at_openLog h10.at_ HS.out.r4)
        clear C11 h10 k10
        go_wp2_with fail
        refine C12.out.mono ?_
        rintro e w11 ⟨lb11, v11, rfl, h11, t11, k11, _⟩
        obtain ⟨a11, c11, rfl⟩ := t11.len
        have HL11 := Lib.hid (H10.out.disk h11.at_ k11)
        have X11 := Lib.hid (X10.out.kp k11 (fun _ _ _ hs => at_notText H10.out.at_ hs))
        have c13 := prefix19 X11.out.row t11.row (by have := cut_len l; omega)
        rw [show prefB (cutL l) (cutL l) = true from by unfold prefB; simp, ← HN.out] at c13
        have C13 := Lib.hid c13
        rw [← HN.out]
        clear C12 h11 t11 k11 c13
        go_wp2_with fail
        refine C13.out.mono ?_
        rintro e w12 ⟨rfl, hb12⟩
        have HL12 := Lib.hid (HL11.out.below hb12)
        have X12 := Lib.hid (X11.out.below hb12 (Nat.le_refl _))
        have c14 := room_any HL12.out.log _ HS.out.s2
        rw [HS.out.room] at c14
        have C14 := Lib.hid c14
        clear C13 hb12 c14
        go_wp2_with fail
        refine C14.out.mono ?_
        rintro e w13 ⟨rfl, hb13⟩
        have HL13 := Lib.hid (HL12.out.below hb13)
        have c15 := size19 ((X12.out.below hb13 (Nat.le_refl _)).row) (by have := szs_cut l; omega)
        rw [← HN.out] at c15
        have C15 := Lib.hid c15
        clear C14 hb13 c15
        have hsz := szs_cut l
        have hr0 : IntKind.i64.wrap (L1.room - ((szs (cutL l) : Nat) : Int)) = L1.room - ((szs (cutL l) : Nat) : Int) := IntWalk.i64_in _ (by have := HS.out.s1.en; have := HS.out.s1.hi; have := HS.out.s1.n4; have := HS.out.s1.lt; unfold LS.room; omega)
        go_wp2_with fail
        refine C15.out.mono ?_
        rintro e w14 ⟨rfl, hb14⟩
        have HB := Lib.hid (HL13.out.below hb14).at_.bel
        clear C15 hb14
        go_wp2
        go_ret
        exact ⟨rfl, HB.out⟩
      · have hrw := row_drop (b := g3) (off := 0) hrow k (by rw [← HN.out]; exact hkn) ⟨g3, 0 + k, none⟩ (fun _ => rfl)
        rw [Nat.zero_add] at hrw
        have HRW := Lib.hid hrw
        clear hrow hrw
        go_wp2_with (refine wpList_append_row rfl _ _ rfl w3.heap.size s11 ((cutL l).take k ++ [zeros 8193]) rfl TX.out _ ((cutL l).drop k) rfl HRW.out HLX.out hzx (fun c e => by cases e) ?_; intro v6 w6 t6 g6 l6; have T6 := Lib.hid t6; have G6 := Lib.hid g6; clear t6 g6 l6)
        have H6 := Lib.hid (HX.out.grown G6.out (fun k hk => ⟨Nat.le_trans H3.out.at_.bel.size (TX.out.own_text hk).1, HX.out.notText (TX.out.own_text hk).2⟩))
        have X6 : Hid (Texts w6 w2.heap.size (.slice (some ⟨g3, 0, none⟩) (cutL l).length c3) (cutL l)) := Lib.hid (World.ownsRow.kept XX.out G6.out (.inr (fun e => by have h1 : w3.heap.size ≤ g3 := (TX.out.own_text (k := g3) e.symm).1; have h2 : g3 < w3.heap.size := (World.ownsRow.lt T3.out g3 rfl).2; omega)))
        obtain ⟨bad, hbad⟩ : ∃ bad, bad = (cutL l).take k ++ [zeros 8193] ++ (cutL l).drop k := ⟨_, rfl⟩
        rw [← hbad] at T6
        have hr2 := HS.out.r2
        rw [← hbad] at hr2
        have hbl : bad.length ≤ 1000 := by
          have := cut_len l
          rw [hbad]
          simp only [List.length_append, List.length_take, List.length_drop, List.length_cons, List.length_nil]
          omega
        have HR2 := Lib.hid hr2
        obtain ⟨a6, c6, rfl⟩ := T6.out.len
        clear hr2 hbad
        have C7 := Lib.hid (room_any H6.out.log _ HS.out.s1)
        go_wp2_with fail
        refine C7.out.mono ?_
        rintro e w7 ⟨rfl, hb7⟩
        have H7 := Lib.hid (H6.out.below hb7)
        have X7 := Lib.hid (X6.out.below hb7 (Nat.le_refl _))
        have C8 := Lib.hid (H7.out.append HS.out.s1 _ _ ((T6.out.below hb7 (Nat.le_refl _)).row) hbl HR2.out)
        clear C7 hb7 T6 G6
        go_wp2_with fail
        refine C8.out.mono ?_
        rintro e w8 ⟨rfl, h8, k8⟩
        have H8 := Lib.hid h8
        have X8 := Lib.hid (X7.out.kp k8 (fun _ _ _ hs => H7.out.notText hs))
        have c9 := len_log h8.log (by rw [HS.out.many]; omega)
        rw [HS.out.many] at c9
        have C9 := Lib.hid c9
        have C10 := Lib.hid (room_any h8.log _ HS.out.s1)
        clear C8 h8 k8 c9
        go_wp2_with fail
        refine C9.out.mono ?_
        rintro e w9 ⟨rfl, rfl⟩
        go_wp2_with fail
        refine C10.out.mono ?_
        rintro e w9 ⟨rfl, hb9⟩
        have H9 := Lib.hid (H8.out.below hb9)
        have X9 := Lib.hid (X8.out.below hb9 (Nat.le_refl _))
        have c11 := H9.out.append HS.out.s1 _ _ X9.out.row (by have := cut_len l; omega) HS.out.r3
        rw [← HN.out] at c11
        have C11 := Lib.hid c11
        clear C9 C10 hb9 c11
        go_wp2_with fail
        refine C11.out.mono ?_
        rintro e w10 ⟨rfl, h10, k10⟩
        have H10 := Lib.hid h10
        have X10 := Lib.hid (X9.out.kp k10 (fun _ _ _ hs => H9.out.notText hs))
        have C12 := Lib.hid (at_openLog h10.at_ HS.out.r4)
        clear C11 h10 k10
        go_wp2_with fail
        refine C12.out.mono ?_
        rintro e w11 ⟨lb11, v11, rfl, h11, t11, k11, _⟩
        obtain ⟨a11, c11, rfl⟩ := t11.len
        have HL11 := Lib.hid (H10.out.disk h11.at_ k11)
        have X11 := Lib.hid (X10.out.kp k11 (fun _ _ _ hs => at_notText H10.out.at_ hs))
        have c13 := prefix19 X11.out.row t11.row (by have := cut_len l; omega)
        rw [show prefB (cutL l) (cutL l) = true from by unfold prefB; simp, ← HN.out] at c13
        have C13 := Lib.hid c13
        rw [← HN.out]
        clear C12 h11 t11 k11 c13
        go_wp2_with fail
        refine C13.out.mono ?_
        rintro e w12 ⟨rfl, hb12⟩
        have HL12 := Lib.hid (HL11.out.below hb12)
        have X12 := Lib.hid (X11.out.below hb12 (Nat.le_refl _))
        have c14 := room_any HL12.out.log _ HS.out.s2
        rw [HS.out.room] at c14
        have C14 := Lib.hid c14
        clear C13 hb12 c14
        go_wp2_with fail
        refine C14.out.mono ?_
        rintro e w13 ⟨rfl, hb13⟩
        have HL13 := Lib.hid (HL12.out.below hb13)
        have c15 := size19 ((X12.out.below hb13 (Nat.le_refl _)).row) (by have := szs_cut l; omega)
        rw [← HN.out] at c15
        have C15 := Lib.hid c15
        clear C14 hb13 c15
        have hsz := szs_cut l
        have hr0 : IntKind.i64.wrap (L1.room - ((szs (cutL l) : Nat) : Int)) = L1.room - ((szs (cutL l) : Nat) : Int) := IntWalk.i64_in _ (by have := HS.out.s1.en; have := HS.out.s1.hi; have := HS.out.s1.n4; have := HS.out.s1.lt; unfold LS.room; omega)
        go_wp2_with fail
        refine C15.out.mono ?_
        rintro e w14 ⟨rfl, hb14⟩
        have HB := Lib.hid (HL13.out.below hb14).at_.bel
        clear C15 hb14
        go_wp2
        go_ret
        exact ⟨rfl, HB.out⟩

set_option maxRecDepth 100000 in
set_option maxHeartbeats 4000000 in
theorem all_far (v : Value) (l : List Bs) (c : Int) (W : World) (R : RowT W v l) (hl : 100 < l.length) :
    Calls Tryd.prog 4 #[v, .int .u8 c] W fun e w' => e = .returned (.bool true) ∧ Below W.heap.size W w' := by
  obtain ⟨aA, cA, rfl⟩ := R.len
  have h2 : decide (100 < l.length) = true := decide_eq_true hl
  have HSH := Lib.hid (fun w => shown19 w)
  clear R
  go_enter Tryd.func4, Tryd.ntmps4
  go_wp2_with fail
  refine (made 300 (by decide) (by decide) W W (Below.refl _ _)).mono ?_
  rintro e w1 ⟨b, g, bm, rfl, h1, _⟩
  have H1 := Lib.hid h1
  clear h1
  go_wp2_with (go_at_call 12; refine (HSH.out _).mono ?_; rintro e w1' ⟨rfl, hb⟩)
  go_ret
  exact ⟨rfl, (H1.out.below hb).bel⟩

theorem all_walk (v : Value) (l : List ByteArray) (a2 : Int) (W : World) (R0 : Rd.Reads W (.sl .str) [v] l) (w2 : (Lit.int .u8 a2).wf = true) :
    Calls Tryd.prog 4 #[v, .int .u8 a2] W fun e w' => e = .returned (.bool true) ∧ Below W.heap.size W w' := by
  obtain ⟨h1, h2⟩ := Rd.row_strs R0
  have hr : RowT W v (l.map fun s => s.data.toList) := row_map h1
  obtain ⟨b0, b1⟩ := bounds_u8 w2
  obtain ⟨c, rfl⟩ := Int.eq_ofNat_of_zero_le b0
  by_cases hl : l.length ≤ 100
  · exact all_near v _ c W hr (by rw [List.length_map]; exact hl) (small_map h2) (by omega)
  · exact all_far v _ c W hr (by rw [List.length_map]; omega)
end Go.Proofs.YtoafebndlldclaaDoor.Wl
