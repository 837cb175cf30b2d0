/- The call of the disk's On is proved: what becomes of what was written, sector by sector. -/
import Derived.Test.YtoafebndlldclaaDoorDb
import Derived.BigQuiet
namespace Go.Proofs.YtoafebndlldclaaDoor.Dk
open Go Go.RowKit Go.ChangeMaps Go.MapKept
variable {W : World} {b g bm : Nat} {D : DS}

section
variable {P : Program} {w : World} {ops : Array Oper} {rest : List Oper} {o : Oper} {a : Act} {Q : Exit → Act → World → Prop}
/-- 'x := d.dirty[i]', i a place that was written -/
theorem wpList_lookup_disk (hg : o.guard = none) (m x : Operand) (t k e : TypeId) (hop : o.op = Op.lookup t m x false) (K : Maps.Keyed P k) (ht : P.underlying t = some (.map k e)) (hki : P.underlying k = some (.int .i64)) (hz : (zeroValue e).run P w = .ok (.agg (Lib.byteCells (zeros 64)).toArray) w) (bm n : Nat) (news : List (Option Bs))
    (hm : a.eval m = .map (some bm)) (hown : w.ownsMap P k secElem bm n (datum news)) (i : Nat) (hi : i ≤ 9223372036854775807) (hx : a.eval x = .int .i64 i) (z : Bs) (hy : news[i]? = some (some z))
    (hK : wpList P ops Q rest (a.put o.dst (.agg (Lib.byteCells z).toArray)) w) :
    wpList P ops Q (o :: rest) a w := by
  refine wpList_plain hg fun K' hK' => ?_
  obtain ⟨v, ps, hrun, hv⟩ := hown.lookup K ht hz (secElem_mk (zeros_length 64)) (Maps.keyOf_int_mk hki (WalkArith.wf_i64 (by omega : -9223372036854775808 ≤ (i : Int) ∧ (i : Int) ≤ 9223372036854775807)))
  obtain ⟨l, hl, rfl, h2⟩ := secElem_inv hv
  rw [datum_at, hy] at h2
  simp at h2
  obtain ⟨rfl, _⟩ := h2
  unfold Oper.wp
  simp [execOp, hop, hm, hx, hrun, Result.andThen]
  exact hK' _ _ hK
end

theorem kp_drewN (S : Nat → Prop) (w : World) (n : Nat) : Kp S w (w.drewN n) := ⟨rfl, rfl, rfl, Nat.le_refl _, fun _ _ _ => rfl⟩

/-- a row of fates -/
def FatesAt (b g bm : Nat) (W : World) (v : Value) (l : List Int) : Prop := ∃ a cap, v = .slice a l.length cap ∧ l.length ≤ cap ∧ l.length ≤ 9223372036854775807 ∧ (∀ x ∈ l, -9223372036854775808 ≤ x ∧ x ≤ 9223372036854775807) ∧
  (l ≠ [] → ∃ fb off, a = some ⟨fb, off, none⟩ ∧ fb < W.heap.size ∧ ¬ Foot b g bm fb ∧ ∀ j x, l[j]? = some x → W.cell? ⟨fb, off + j, none⟩ = some (.int .i64 x))

theorem FatesAt.kept {W W' : World} {v : Value} {l : List Int} (h : FatesAt b g bm W v l) (hk : Kp (Foot b g bm) W W') : FatesAt b g bm W' v l := by
  obtain ⟨a, cap, h1, h2, h3, h4, h5⟩ := h
  refine ⟨a, cap, h1, h2, h3, h4, fun hne => ?_⟩
  obtain ⟨fb, off, e, k1, k2, k3⟩ := h5 hne
  exact ⟨fb, off, e, Nat.lt_of_lt_of_le k1 hk.size, k2, fun j x hj => (hk.cell (p := ⟨fb, off + j, none⟩) k1 k2).trans (k3 j x hj)⟩

def OnInv (b g bm : Nat) (D : DS) (fates : List Int) (W1 : World) (v j : Value) (wr : World) : Prop := ∃ (k : Nat) (fs : List Int) (olds : List Bs), j = .int .i64 k ∧ k ≤ (dirty D).length ∧ FatesAt b g bm wr v fs ∧
  onL D.news ((dirty D).drop k) fs olds = onL D.news (dirty D) fates D.olds ∧ olds.length = D.olds.length ∧ IsDisk wr b g bm { D with olds := olds } ∧ Kp (Foot b g bm) W1 wr

set_option maxRecDepth 100000 in
set_option maxHeartbeats 2000000 in
theorem on_up (h : IsDisk W b g bm D) (ho : D.off = false) (v : Value) : Calls Tryd.prog 40 #[.pointer (some ⟨b, 0, none⟩), v] W fun e w' => e = .returned (.int .i64 5) ∧ W = w' := by
  have c3 := h.c3
  rw [ho] at c3
  have hnot : ∀ (x : Bool) (w : World), (Op.unary .not (.bool x)).run Tryd.prog w = .ok (.bool (!x)) w := fun _ _ => rfl
  clear h ho
  go_enter Tryd.func40, Tryd.ntmps40
  go_wp2
  go_ret
  exact ⟨rfl, rfl⟩

theorem torn_none (o x : Bs) {k : Int} (h1 : k ≠ 1) (h2 : ¬ 1 < k) : torn o x k = o := by
  simp [torn, much, h1, h2]
theorem torn_all {o x : Bs} (ho : o.length = 64) (hx : x.length = 64) : torn o x 1 = x := by
  simp [torn, much]
  rw [List.take_of_length_le (by omega), List.drop_eq_nil_of_le (by omega), List.append_nil]
theorem torn_part {o x : Bs} (hx : x.length = 64) {k : Int} (h : 1 < k) : torn o x k = x.take ((k - 2) % 64).toNat ++ o.drop (x.take ((k - 2) % 64).toNat).length := by
  have : k ≠ 1 := by omega
  have h3 : ((k - 2) % 64).toNat ≤ 64 := by omega
  simp only [torn, much, this, if_false, h, if_true]
  rw [List.length_take, hx, Nat.min_eq_left h3]

theorem on_step {D : DS} {k xj : Nat} {fs : List Int} {olds : List Bs} {z o : Bs} (hxj : (dirty D)[k]? = some xj) (hz : D.news[xj]? = some (some z)) (ho : olds[xj]? = some o) {R : List Bs} (h : onL D.news ((dirty D).drop k) fs olds = R) :
    onL D.news ((dirty D).drop (k + 1)) fs.tail (olds.set xj (torn o z (fs.headD 0))) = R := by
  have hlt : k < (dirty D).length := (List.getElem?_eq_some_iff.1 hxj).1
  have e : (dirty D)[k] = xj := (List.getElem?_eq_some_iff.1 hxj).2
  rw [List.drop_eq_getElem_cons hlt, e] at h
  simp only [onL, List.getD_eq_getElem?_getD, hz, ho, Option.getD_some] at h
  exact h

theorem set_same {l : List Bs} {i : Nat} {x : Bs} (h : l[i]? = some x) : l.set i x = l := by
  apply List.ext_getElem?
  intro j
  rw [List.getElem?_set]
  by_cases e : i = j
  · subst e
    rw [if_pos rfl, if_pos (List.getElem?_eq_some_iff.1 h).1, h]
  · rw [if_neg e]

theorem FatesAt.nil {W : World} {v : Value} (h : FatesAt b g bm W v []) : ∃ a cap, v = .slice a 0 cap := by
  obtain ⟨a, cap, h1, _⟩ := h
  exact ⟨a, cap, h1⟩
theorem FatesAt.cons {W : World} {v : Value} {f : Int} {l : List Int} (h : FatesAt b g bm W v (f :: l)) : ∃ fb off cap, v = .slice (some ⟨fb, off, none⟩) (l.length + 1) cap ∧ l.length + 1 ≤ cap ∧ l.length + 1 ≤ 9223372036854775807 ∧ W.cell? ⟨fb, off, none⟩ = some (.int .i64 f) ∧ -9223372036854775808 ≤ f ∧ f ≤ 9223372036854775807 ∧
    (∀ A, (cap ≠ 1 → A = ⟨fb, off + 1, none⟩) → FatesAt b g bm W (.slice (some A) l.length (cap - 1)) l) := by
  obtain ⟨a, cap, h1, h2, h3, h4, h5⟩ := h
  obtain ⟨fb, off, rfl, k1, k2, k3⟩ := h5 (by simp)
  rw [List.length_cons] at h1 h2 h3
  refine ⟨fb, off, cap, h1, h2, h3, by simpa using k3 0 f (by simp), (h4 f (by simp)).1, (h4 f (by simp)).2, fun A hA => ⟨some A, cap - 1, rfl, by omega, by omega, fun x hx => h4 x (by simp [hx]), fun hne => ?_⟩⟩
  have hl : 0 < l.length := List.length_pos_iff.2 hne
  refine ⟨fb, off + 1, by rw [hA (by omega)], k1, k2, fun j x hj => ?_⟩
  have := k3 (j + 1) x (by simpa using hj)
  rwa [show off + 1 + j = off + (j + 1) from by omega]

set_option maxRecDepth 100000 in
set_option maxHeartbeats 4000000 in
theorem on_off (hsort : SortsInts) (hnone : SortsNone) (h : IsDisk W b g bm D) (ho : D.off = true) (v : Value) (fates : List Int) (hv : FatesAt b g bm W v fates) :
    Calls Tryd.prog 40 #[.pointer (some ⟨b, 0, none⟩), v] W fun e w' => e = .returned (.int .i64 0) ∧ IsDisk w' b g bm (on D fates).1 ∧ Kp (Foot b g bm) W w' := by
  have c3 := h.c3
  rw [ho] at c3
  have hnot : ∀ (x : Bool) (w : World), (Op.unary .not (.bool x)).run Tryd.prog w = .ok (.bool (!x)) w := fun _ _ => rfl
  have HDIRTY := Lib.hid (dirty_any hsort hnone h)
  have HH := Lib.hid h
  have HO := Lib.hid ho
  have HV := Lib.hid hv
  clear h ho hv hsort hnone
  go_enter Tryd.func40, Tryd.ntmps40
  go_wp2_with fail
  refine HDIRTY.out.mono ?_
  rintro e W1 ⟨dv, rfl, hown, hbel⟩
  have hlen : ∃ A c, dv = .slice A (dirty D).length c := by
    rcases hown.2 with ⟨rfl, hz⟩ | ⟨q, cap, cur, rfl, _⟩
    · exact ⟨none, 0, by rw [hz]⟩
    · exact ⟨_, cap, rfl⟩
  obtain ⟨A, c, rfl⟩ := hlen
  have HOWN := Lib.hid hown
  have HBEL := Lib.hid hbel
  clear hown hbel c3
  go_wp2_with fail
  go_loopw [1, 6, 7, 8, 17] (fun v _ _ _ j wr => OnInv b g bm D fates W1 v j wr) (fun _ _ _ _ j _ => (dirty D).length - (intOf j).toNat)
  case atStart =>
    exact ⟨0, fates, D.olds, rfl, Nat.zero_le _, HV.out.kept (.of_below HBEL.out), by rw [List.drop_zero], rfl, HH.out.below HBEL.out, Kp.refl _ _⟩
  case round =>
    obtain ⟨k, fs, olds, rfl, hk, hfs, honl, hol, hid, hkp⟩ := hrel
    have HFS := Lib.hid hfs
    have HONL := Lib.hid honl
    have HOL := Lib.hid hol
    have HID := Lib.hid hid
    have HKP := Lib.hid hkp
    clear hfs honl hol hid hkp
    have hd4 : (dirty D).length ≤ 4096 := by
      have h1 : (dirty D).length ≤ D.news.length := dirtyFrom_length D.news 0
      have h2 := HH.out.ok.len
      have h3 := HH.out.ok.hi
      omega
    by_cases hlt : k < (dirty D).length
    · have hk4 : (k : Int) < 4096 := by omega
      obtain ⟨xj, hxj⟩ : ∃ xj, (dirty D)[k]? = some xj := ⟨_, List.getElem?_eq_getElem hlt⟩
      obtain ⟨z, hz⟩ := dirty_mem.1 (List.mem_of_getElem? hxj)
      have hq : ∃ q, A = some ⟨q, 0, none⟩ ∧ W.heap.size ≤ q ∧ q < W1.heap.size ∧ W1.cell? ⟨q, k, none⟩ = some (.int .i64 (xj : Nat)) := by
        rcases HOWN.out.2 with ⟨he, hz⟩ | ⟨q, cap, cur, he, hq, hb, k1, k2, k3, k4⟩
        · omega
        · injection he with e1 e2 e3
          refine ⟨q, e1, hq, (Array.getElem?_eq_some_iff.1 hb).1, ?_⟩
          have hown := HOWN.out
          rw [e1] at hown
          rw [hown.cellAt k (by omega)]
          simp [ints, hxj]
      obtain ⟨q, rfl, hqW, hqW1, hqc⟩ := hq
      have hqf : ¬ Foot b g bm q := fun hf => by have := HH.out.lt hf; omega
      have hqr : wr.cell? ⟨q, k, none⟩ = some (.int .i64 (xj : Nat)) := (HKP.out.cell (p := ⟨q, k, none⟩) hqW1 hqf).trans hqc
      obtain ⟨oj, hoj⟩ : ∃ oj, olds[xj]? = some oj := by
        have h1 := (List.getElem?_eq_some_iff.1 hz).1
        rw [HH.out.ok.len, ← HOL.out] at h1
        exact ⟨_, List.getElem?_eq_getElem h1⟩
      have hojl : oj.length = 64 := HID.out.ok.old oj (List.mem_of_getElem? hoj)
      have hzl : z.length = 64 := HH.out.ok.new z (List.mem_of_getElem? hz)
      have hxi : xj ≤ 9223372036854775807 := by
        have h1 := (List.getElem?_eq_some_iff.1 hoj).1
        rw [HOL.out] at h1
        exact in_range HH.out.ok h1
      have HZL := Lib.hid (show (Lib.byteCells z).length = 64 by rw [Lib.byteCells_length]; exact hzl)
      have HOJL := Lib.hid hojl
      have HZL2 := Lib.hid hzl
      clear hojl hzl
      cases fs with
      | nil =>
        obtain ⟨a, cap, rfl⟩ := HFS.out.nil
        have c1 := HID.out.c1
        have hown := HID.out.map
        have hstep := on_step hxj hz hoj HONL.out
        rw [show ([] : List Int).headD 0 = 0 from rfl, torn_none _ _ (by decide) (by decide), set_same hoj] at hstep
        have HSTEP := Lib.hid hstep
        have HZ := Lib.hid hz
        have HHOWN := Lib.hid hown
        clear hstep hz hoj hxj hqc hown
        go_wp2_with (first
          | (refine wpList_alloc_agg rfl 114 rfl _ zero_info ?_)
          | (at_lookup; refine wpList_lookup_disk rfl _ _ 79 3 114 rfl (Maps.int_keyed Tryd.underlying3) Tryd.underlying79 Tryd.underlying3 (zero_sector _) bm _ D.news rfl HHOWN.out xj hxi rfl z HZ.out ?_)
          | (refine wpList_store_new rfl 114 _ _ rfl wr (Lib.byteCells (zeros 64)) 114 rfl rfl (Lib.byteCells z) rfl (by rw [HZL.out]; rfl) (Lib.byteCells_one _) (by rw [HZL.out]; exact size_info) ?_))
        go_roundw
        case rel => exact ⟨k + 1, [], olds, by go_num, hlt, HFS.out.kept ((Kp.refl _ wr).alloc _), HSTEP.out, HOL.out, HID.out.alloc _, HKP.out.alloc _⟩
        case measure => simp [intOf]; omega
      | cons f fs =>
        obtain ⟨fb, off, cap, rfl, hcap, hcl, hfc, hf1, hf2, hft⟩ := HFS.out.cons
        have hlp : (0 : Int) < (fs.length : Int) + 1 := by omega
        have hcap2 : (1 : Int) ≤ (cap : Int) := by omega
        have hcap3 : (fs.length : Int) + 1 ≤ (cap : Int) := by omega
        have HFT := Lib.hid hft
        clear hft
        have hsteps := fun R (h : onL D.news ((dirty D).drop k) (f :: fs) olds = R) => on_step hxj hz hoj h
        have hstep := hsteps _ HONL.out
        rw [show (f :: fs).headD 0 = f from rfl, show (f :: fs).tail = fs from rfl] at hstep
        have HSTEP := Lib.hid hstep
        have HZ := Lib.hid hz
        have HOJ := Lib.hid hoj
        have hxr : xj < olds.length := (List.getElem?_eq_some_iff.1 hoj).1
        have hxr2 : (xj : Int) < (olds.length : Int) := by omega
        clear hstep hsteps hz hoj hxj hqc
        by_cases hc1 : cap = 1
        · have hV := HFT.out ⟨fb, off, none⟩ (fun e => absurd hc1 e)
          rw [hc1, Nat.sub_self] at hV
          have HV2 := Lib.hid (fun nq => hV.kept (kp_drewN (Foot b g bm) wr nq))
          clear hV
          go_wp2_with fail
          go_quiet (fail)
          have hV5 := HV2.out nq
          clear HV2 HFT
          generalize Value.slice (some { block := fb, off := off }) fs.length 0 = V at *
          have HID5 := Lib.hid (HID.out.drewN nq)
          have HKP5 := Lib.hid (HKP.out.trans (kp_drewN (Foot b g bm) wr nq))
          generalize wr.drewN nq = w5 at *
          have c1 := HID5.out.c1
          have HOWN5 := Lib.hid HID5.out.map
          have hX6 := Go.heap_alloc_new w5 (.cells (Lib.byteCells z).toArray 114)
          have HX6 := Lib.hid hX6
          have HID6 := Lib.hid (HID5.out.alloc (.cells (Lib.byteCells z).toArray 114))
          have HKP6 := Lib.hid (HKP5.out.alloc (.cells (Lib.byteCells z).toArray 114))
          have HV6 := Lib.hid (hV5.kept ((Kp.refl (Foot b g bm) w5).alloc (.cells (Lib.byteCells z).toArray 114)))
          have c06 := HID6.out.c0
          have HFIT : Hid (xj * 64 + 64 ≤ (Lib.byteCells olds.flatten).toArray.size) := by
            show _ ≤ _
            have : olds.flatten.length = olds.length * 64 := flat_length HID5.out.ok.old
            simp only [List.size_toArray, Lib.byteCells_length, this]
            omega
          have hqf5 := HKP5.out.size
          clear hX6 hV5
          by_cases hf1 : f = 1
          · subst hf1
            have hst := HSTEP.out
            rw [torn_all HOJL.out HZL2.out] at hst
            have HST := Lib.hid hst
            clear hst HSTEP
            go_wp2_with (first | (refine wpList_alloc_agg rfl 114 rfl _ zero_info ?_) | (at_lookup; refine wpList_lookup_disk rfl _ _ 79 3 114 rfl (Maps.int_keyed Tryd.underlying3) Tryd.underlying79 Tryd.underlying3 (zero_sector _) bm _ D.news rfl HOWN5.out xj hxi rfl z HZ.out ?_) | (refine wpList_store_new rfl 114 _ _ rfl w5 (Lib.byteCells (zeros 64)) 114 rfl rfl (Lib.byteCells z) rfl (by rw [HZL.out]; rfl) (Lib.byteCells_one _) (by rw [HZL.out]; exact size_info) ?_))
            refine region_tail 7 (by kernel_rfl) (by kernel_rfl) ?_
            simp only [List.take_succ_cons, List.take_zero, List.drop_succ_cons, List.drop_zero]
            repeat (first
              | (refine wpStill_step (fun K hK => still_load_row rfl 114 _ rfl w5.heap.size 0 rfl 114 _ _ _ (Lib.byteCells z) HX6.out (fun j v hv => by rw [Nat.zero_add]; simpa using hv) Tryd.underlying114 rfl (by rw [HZL.out]; exact size_info) (hK _ ?_)))
              | still_step)
            refine wpStill_nil ?_
            try go_frame
            try clear hK K
            refine wpList_store_part rfl 114 _ _ rfl g (xj * 64) rfl (Lib.byteCells z) rfl 114 _ HID6.out.drew.row (by rw [HZL.out]; exact HFIT.out) (Lib.byteCells_one _) (by rw [HZL.out]; exact size_info) ?_
            have hset := HID6.out.drew.rowSet HOJ.out (x := z) (by rw [HZL2.out]; exact Nat.le_refl _)
            rw [List.drop_eq_nil_of_le (by rw [HOJL.out, HZL2.out]; exact Nat.le_refl _), List.append_nil] at hset
            have HSET := Lib.hid hset
            have HKP7 := Lib.hid (HKP6.out.drew.setRow (g := g) (.inr (.inl rfl)) (splice (Lib.byteCells olds.flatten).toArray.toList (xj * 64) (Lib.byteCells z)).toArray)
            have HV7 := Lib.hid (HV6.out.kept ((Kp.refl (Foot b g bm) _).drew.setRow (g := g) (.inr (.inl rfl)) (splice (Lib.byteCells olds.flatten).toArray.toList (xj * 64) (Lib.byteCells z)).toArray))
            clear hset
            go_wp2
            go_roundw
            case rel => exact ⟨k + 1, fs, _, by go_num, hlt, HV7.out, HST.out, by rw [List.length_set]; exact HOL.out, HSET.out, HKP7.out⟩
            case measure => simp [intOf]; omega
          · have ht1 : (f == 1) = false := beq_eq_false_iff_ne.2 hf1
            by_cases hf2 : 1 < f
            · have hst := HSTEP.out
              rw [torn_part HZL2.out hf2] at hst
              obtain ⟨m, hm⟩ : ∃ m : Nat, (f - 2) % 64 = (m : Int) := ⟨((f - 2) % 64).toNat, by omega⟩
              have hm64 : m < 64 := by omega
              rw [hm, Int.toNat_natCast] at hst
              have HST := Lib.hid hst
              have HM := Lib.hid hm
              clear hst HSTEP hm
              have hb2 : (0 : Int) ≤ f - 2 := by omega
              have hmi : (m : Int) ≤ 64 := by omega
              have hrem : (IntKind.i64.wrap (f - 2)).tmod 64 = (m : Int) := by rw [IntWalk.i64_in _ (by omega), Int.tmod_eq_emod_of_nonneg hb2]; exact HM.out
              go_wp2_with (first | (refine wpList_alloc_agg rfl 114 rfl _ zero_info ?_) | (at_lookup; refine wpList_lookup_disk rfl _ _ 79 3 114 rfl (Maps.int_keyed Tryd.underlying3) Tryd.underlying79 Tryd.underlying3 (zero_sector _) bm _ D.news rfl HOWN5.out xj hxi rfl z HZ.out ?_) | (refine wpList_store_new rfl 114 _ _ rfl w5 (Lib.byteCells (zeros 64)) 114 rfl rfl (Lib.byteCells z) rfl (by rw [HZL.out]; rfl) (Lib.byteCells_one _) (by rw [HZL.out]; exact size_info) ?_))
              refine region_tail 11 (by kernel_rfl) (by kernel_rfl) ?_
              simp only [List.take_succ_cons, List.take_zero, List.drop_succ_cons, List.drop_zero]
              repeat still_step
              refine wpStill_nil ?_
              try go_frame
              have hcl5 : (Lib.byteCells (z.take m)).length = m := by rw [Lib.byteCells_length, List.length_take, HZL2.out]; omega
              have HCL5 := Lib.hid hcl5
              clear hcl5
              refine wpList_copy_own rfl _ _ 34 34 rfl 5 Tryd.underlying34 byte_info g (xj * 64) m 64 ⟨w5.heap.size, 0, none⟩ 64 64 rfl rfl _ 114 HID6.out.drew.row (Lib.byteCells (z.take m)) (by rw [HCL5.out]; exact (Nat.min_eq_right (by omega)).symm) (fun j v hv => ?_) (by rw [HCL5.out]; exact Nat.le_trans (by omega : xj * 64 + m ≤ xj * 64 + 64) HFIT.out) (Lib.byteCells_one _) ?_
              · have hj : j < m := by have := (List.getElem?_eq_some_iff.1 hv).1; rw [HCL5.out] at this; exact this
                rw [show (⟨w5.heap.size, 0, none⟩ : Addr).add j = ⟨w5.heap.size, j, none⟩ from by unfold Addr.add; split <;> simp_all]
                show (w5.alloc (.cells (Lib.byteCells z).toArray 114)).cell? _ = _
                rw [World.cell?_alloc_at _ _ _ _ rfl, List.getElem?_toArray, ← hv]
                simp [Lib.byteCells, hj]
              · have hset := HID6.out.drew.rowSet HOJ.out (x := z.take m) (by rw [List.length_take, HZL2.out]; omega)
                unfold splice at hset
                have HSET := Lib.hid hset
                have HKP7 := Lib.hid (HKP6.out.drew.setRow (g := g) (.inr (.inl rfl)) ((Lib.byteCells olds.flatten).toArray.toList.take (xj * 64) ++ (Lib.byteCells (z.take m) ++ (Lib.byteCells olds.flatten).toArray.toList.drop (xj * 64 + (Lib.byteCells (z.take m)).length))).toArray)
                have HV7 := Lib.hid (HV6.out.kept ((Kp.refl (Foot b g bm) _).drew.setRow (g := g) (.inr (.inl rfl)) ((Lib.byteCells olds.flatten).toArray.toList.take (xj * 64) ++ (Lib.byteCells (z.take m) ++ (Lib.byteCells olds.flatten).toArray.toList.drop (xj * 64 + (Lib.byteCells (z.take m)).length))).toArray))
                clear hset
                generalize ((w5.alloc (.cells (Lib.byteCells z).toArray 114)).drew).setRow g ((Lib.byteCells olds.flatten).toArray.toList.take (xj * 64) ++ (Lib.byteCells (z.take m) ++ (Lib.byteCells olds.flatten).toArray.toList.drop (xj * 64 + (Lib.byteCells (z.take m)).length))).toArray = w9 at *
                go_wp2
                go_roundw
                case rel => exact ⟨k + 1, fs, _, by go_num, hlt, HV7.out, HST.out, by rw [List.length_set]; exact HOL.out, HSET.out, HKP7.out⟩
                case measure => simp [intOf]; omega
            · have hst := HSTEP.out
              rw [torn_none _ _ hf1 hf2, set_same HOJ.out] at hst
              have HST := Lib.hid hst
              clear hst HSTEP
              go_wp2_with (first | (refine wpList_alloc_agg rfl 114 rfl _ zero_info ?_) | (at_lookup; refine wpList_lookup_disk rfl _ _ 79 3 114 rfl (Maps.int_keyed Tryd.underlying3) Tryd.underlying79 Tryd.underlying3 (zero_sector _) bm _ D.news rfl HOWN5.out xj hxi rfl z HZ.out ?_) | (refine wpList_store_new rfl 114 _ _ rfl w5 (Lib.byteCells (zeros 64)) 114 rfl rfl (Lib.byteCells z) rfl (by rw [HZL.out]; rfl) (Lib.byteCells_one _) (by rw [HZL.out]; exact size_info) ?_))
              go_roundw
              case rel => exact ⟨k + 1, fs, olds, by go_num, hlt, HV6.out, HST.out, HOL.out, HID6.out, HKP6.out⟩
              case measure => simp [intOf]; omega
        · have hV := HFT.out ⟨fb, off + 1, none⟩ (fun _ => rfl)
          have HV2 := Lib.hid (fun nq => hV.kept (kp_drewN (Foot b g bm) wr nq))
          clear hV
          go_wp2_with fail
          go_quiet (fail)
          have hV5 := HV2.out nq
          clear HV2 HFT
          generalize Value.slice (some { block := fb, off := off + 1 }) fs.length (cap - 1) = V at *
          have HID5 := Lib.hid (HID.out.drewN nq)
          have HKP5 := Lib.hid (HKP.out.trans (kp_drewN (Foot b g bm) wr nq))
          generalize wr.drewN nq = w5 at *
          have c1 := HID5.out.c1
          have HOWN5 := Lib.hid HID5.out.map
          have hX6 := Go.heap_alloc_new w5 (.cells (Lib.byteCells z).toArray 114)
          have HX6 := Lib.hid hX6
          have HID6 := Lib.hid (HID5.out.alloc (.cells (Lib.byteCells z).toArray 114))
          have HKP6 := Lib.hid (HKP5.out.alloc (.cells (Lib.byteCells z).toArray 114))
          have HV6 := Lib.hid (hV5.kept ((Kp.refl (Foot b g bm) w5).alloc (.cells (Lib.byteCells z).toArray 114)))
          have c06 := HID6.out.c0
          have HFIT : Hid (xj * 64 + 64 ≤ (Lib.byteCells olds.flatten).toArray.size) := by
            show _ ≤ _
            have : olds.flatten.length = olds.length * 64 := flat_length HID5.out.ok.old
            simp only [List.size_toArray, Lib.byteCells_length, this]
            omega
          have hqf5 := HKP5.out.size
          clear hX6 hV5
          by_cases hf1 : f = 1
          · subst hf1
            have hst := HSTEP.out
            rw [torn_all HOJL.out HZL2.out] at hst
            have HST := Lib.hid hst
            clear hst HSTEP
            go_wp2_with (first | (refine wpList_alloc_agg rfl 114 rfl _ zero_info ?_) | (at_lookup; refine wpList_lookup_disk rfl _ _ 79 3 114 rfl (Maps.int_keyed Tryd.underlying3) Tryd.underlying79 Tryd.underlying3 (zero_sector _) bm _ D.news rfl HOWN5.out xj hxi rfl z HZ.out ?_) | (refine wpList_store_new rfl 114 _ _ rfl w5 (Lib.byteCells (zeros 64)) 114 rfl rfl (Lib.byteCells z) rfl (by rw [HZL.out]; rfl) (Lib.byteCells_one _) (by rw [HZL.out]; exact size_info) ?_))
            refine region_tail 7 (by kernel_rfl) (by kernel_rfl) ?_
            simp only [List.take_succ_cons, List.take_zero, List.drop_succ_cons, List.drop_zero]
            repeat (first
              | (refine wpStill_step (fun K hK => still_load_row rfl 114 _ rfl w5.heap.size 0 rfl 114 _ _ _ (Lib.byteCells z) HX6.out (fun j v hv => by rw [Nat.zero_add]; simpa using hv) Tryd.underlying114 rfl (by rw [HZL.out]; exact size_info) (hK _ ?_)))
              | still_step)
            refine wpStill_nil ?_
            try go_frame
            try clear hK K
            refine wpList_store_part rfl 114 _ _ rfl g (xj * 64) rfl (Lib.byteCells z) rfl 114 _ HID6.out.drew.row (by rw [HZL.out]; exact HFIT.out) (Lib.byteCells_one _) (by rw [HZL.out]; exact size_info) ?_
            have hset := HID6.out.drew.rowSet HOJ.out (x := z) (by rw [HZL2.out]; exact Nat.le_refl _)
            rw [List.drop_eq_nil_of_le (by rw [HOJL.out, HZL2.out]; exact Nat.le_refl _), List.append_nil] at hset
            have HSET := Lib.hid hset
            have HKP7 := Lib.hid (HKP6.out.drew.setRow (g := g) (.inr (.inl rfl)) (splice (Lib.byteCells olds.flatten).toArray.toList (xj * 64) (Lib.byteCells z)).toArray)
            have HV7 := Lib.hid (HV6.out.kept ((Kp.refl (Foot b g bm) _).drew.setRow (g := g) (.inr (.inl rfl)) (splice (Lib.byteCells olds.flatten).toArray.toList (xj * 64) (Lib.byteCells z)).toArray))
            clear hset
            go_wp2
            go_roundw
            case rel => exact ⟨k + 1, fs, _, by go_num, hlt, HV7.out, HST.out, by rw [List.length_set]; exact HOL.out, HSET.out, HKP7.out⟩
            case measure => simp [intOf]; omega
          · have ht1 : (f == 1) = false := beq_eq_false_iff_ne.2 hf1
            by_cases hf2 : 1 < f
            · have hst := HSTEP.out
              rw [torn_part HZL2.out hf2] at hst
              obtain ⟨m, hm⟩ : ∃ m : Nat, (f - 2) % 64 = (m : Int) := ⟨((f - 2) % 64).toNat, by omega⟩
              have hm64 : m < 64 := by omega
              rw [hm, Int.toNat_natCast] at hst
              have HST := Lib.hid hst
              have HM := Lib.hid hm
              clear hst HSTEP hm
              have hb2 : (0 : Int) ≤ f - 2 := by omega
              have hmi : (m : Int) ≤ 64 := by omega
              have hrem : (IntKind.i64.wrap (f - 2)).tmod 64 = (m : Int) := by rw [IntWalk.i64_in _ (by omega), Int.tmod_eq_emod_of_nonneg hb2]; exact HM.out
              go_wp2_with (first | (refine wpList_alloc_agg rfl 114 rfl _ zero_info ?_) | (at_lookup; refine wpList_lookup_disk rfl _ _ 79 3 114 rfl (Maps.int_keyed Tryd.underlying3) Tryd.underlying79 Tryd.underlying3 (zero_sector _) bm _ D.news rfl HOWN5.out xj hxi rfl z HZ.out ?_) | (refine wpList_store_new rfl 114 _ _ rfl w5 (Lib.byteCells (zeros 64)) 114 rfl rfl (Lib.byteCells z) rfl (by rw [HZL.out]; rfl) (Lib.byteCells_one _) (by rw [HZL.out]; exact size_info) ?_))
              refine region_tail 11 (by kernel_rfl) (by kernel_rfl) ?_
              simp only [List.take_succ_cons, List.take_zero, List.drop_succ_cons, List.drop_zero]
              repeat still_step
              refine wpStill_nil ?_
              try go_frame
              have hcl5 : (Lib.byteCells (z.take m)).length = m := by rw [Lib.byteCells_length, List.length_take, HZL2.out]; omega
              have HCL5 := Lib.hid hcl5
              clear hcl5
              refine wpList_copy_own rfl _ _ 34 34 rfl 5 Tryd.underlying34 byte_info g (xj * 64) m 64 ⟨w5.heap.size, 0, none⟩ 64 64 rfl rfl _ 114 HID6.out.drew.row (Lib.byteCells (z.take m)) (by rw [HCL5.out]; exact (Nat.min_eq_right (by omega)).symm) (fun j v hv => ?_) (by rw [HCL5.out]; exact Nat.le_trans (by omega : xj * 64 + m ≤ xj * 64 + 64) HFIT.out) (Lib.byteCells_one _) ?_
              · have hj : j < m := by have := (List.getElem?_eq_some_iff.1 hv).1; rw [HCL5.out] at this; exact this
                rw [show (⟨w5.heap.size, 0, none⟩ : Addr).add j = ⟨w5.heap.size, j, none⟩ from by unfold Addr.add; split <;> simp_all]
                show (w5.alloc (.cells (Lib.byteCells z).toArray 114)).cell? _ = _
                rw [World.cell?_alloc_at _ _ _ _ rfl, List.getElem?_toArray, ← hv]
                simp [Lib.byteCells, hj]
              · have hset := HID6.out.drew.rowSet HOJ.out (x := z.take m) (by rw [List.length_take, HZL2.out]; omega)
                unfold splice at hset
                have HSET := Lib.hid hset
                have HKP7 := Lib.hid (HKP6.out.drew.setRow (g := g) (.inr (.inl rfl)) ((Lib.byteCells olds.flatten).toArray.toList.take (xj * 64) ++ (Lib.byteCells (z.take m) ++ (Lib.byteCells olds.flatten).toArray.toList.drop (xj * 64 + (Lib.byteCells (z.take m)).length))).toArray)
                have HV7 := Lib.hid (HV6.out.kept ((Kp.refl (Foot b g bm) _).drew.setRow (g := g) (.inr (.inl rfl)) ((Lib.byteCells olds.flatten).toArray.toList.take (xj * 64) ++ (Lib.byteCells (z.take m) ++ (Lib.byteCells olds.flatten).toArray.toList.drop (xj * 64 + (Lib.byteCells (z.take m)).length))).toArray))
                clear hset
                generalize ((w5.alloc (.cells (Lib.byteCells z).toArray 114)).drew).setRow g ((Lib.byteCells olds.flatten).toArray.toList.take (xj * 64) ++ (Lib.byteCells (z.take m) ++ (Lib.byteCells olds.flatten).toArray.toList.drop (xj * 64 + (Lib.byteCells (z.take m)).length))).toArray = w9 at *
                go_wp2
                go_roundw
                case rel => exact ⟨k + 1, fs, _, by go_num, hlt, HV7.out, HST.out, by rw [List.length_set]; exact HOL.out, HSET.out, HKP7.out⟩
                case measure => simp [intOf]; omega
            · have hst := HSTEP.out
              rw [torn_none _ _ hf1 hf2, set_same HOJ.out] at hst
              have HST := Lib.hid hst
              clear hst HSTEP
              go_wp2_with (first | (refine wpList_alloc_agg rfl 114 rfl _ zero_info ?_) | (at_lookup; refine wpList_lookup_disk rfl _ _ 79 3 114 rfl (Maps.int_keyed Tryd.underlying3) Tryd.underlying79 Tryd.underlying3 (zero_sector _) bm _ D.news rfl HOWN5.out xj hxi rfl z HZ.out ?_) | (refine wpList_store_new rfl 114 _ _ rfl w5 (Lib.byteCells (zeros 64)) 114 rfl rfl (Lib.byteCells z) rfl (by rw [HZL.out]; rfl) (Lib.byteCells_one _) (by rw [HZL.out]; exact size_info) ?_))
              go_roundw
              case rel => exact ⟨k + 1, fs, olds, by go_num, hlt, HV6.out, HST.out, HOL.out, HID6.out, HKP6.out⟩
              case measure => simp [intOf]; omega
    · have hke : k = (dirty D).length := by omega
      have hrows := HONL.out
      rw [hke, List.drop_eq_nil_of_le (Nat.le_refl _)] at hrows
      have hrows2 : olds = onL D.news (dirty D) fates D.olds := hrows
      have HROWS := Lib.hid hrows2
      have hown := HID.out.map
      have c1 := HID.out.c1
      clear hrows hrows2 hke
      go_wp2_with (refine wpList_clear_own rfl _ 79 rfl 3 114 Tryd.underlying79 secElem bm _ _ rfl hown ?_; intro w2 hown2 hturn2; rw [← datum_none D.news] at hown2; have hid2 := HID.out.turned hturn2 hown2 (by rw [List.length_map, HOL.out]; exact HH.out.ok.len) (fun s hs => by simp at hs); have c2 := hid2.c2; have c3 := hid2.c3; have f2 := hid2.free 2; have f3 := hid2.free 3; have HI2 := Lib.hid hid2; have HT2 := Lib.hid hturn2; clear hid2 hturn2 hown2 hown)
      go_ret
      have hfin := (HI2.out.setOff false).setFuse 0 (by omega)
      refine ⟨rfl, ?_, ?_⟩
      · unfold on
        rw [if_pos HO.out]
        rw [HROWS.out] at hfin
        exact hfin
      · exact (((Kp.of_below HBEL.out).trans (HKP.out.then (Kp.of_grown HT2.out.grown (fun k e => by cases e; exact .inl (.inr (.inr rfl)))))).setCell (.inl rfl) _).setCell (.inl rfl) _

theorem on_any (hsort : SortsInts) (hnone : SortsNone) (h : IsDisk W b g bm D) (v : Value) (fates : List Int) (hv : FatesAt b g bm W v fates) :
    Calls Tryd.prog 40 #[.pointer (some ⟨b, 0, none⟩), v] W fun e w' => e = .returned (.int .i64 (on D fates).2) ∧ IsDisk w' b g bm (on D fates).1 ∧ Kp (Foot b g bm) W w' := by
  cases ho : D.off with
  | true =>
    have e : (on D fates).2 = 0 := by unfold on; rw [if_pos ho]
    rw [e]
    exact on_off hsort hnone h ho v fates hv
  | false =>
    have e : on D fates = (D, 5) := by unfold on; rw [if_neg (by simp [ho])]
    rw [e]
    refine (on_up h ho v).mono ?_
    rintro e w' ⟨rfl, rfl⟩
    exact ⟨rfl, h, Kp.refl _ _⟩
end Go.Proofs.YtoafebndlldclaaDoor.Dk
