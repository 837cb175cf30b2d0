/- The call of the law DiskLasts is proved: it answers true, whatever was written, whatever the fuse and the fates. -/
import Derived.Test.YtoafebndlldclaaLastP
import Derived.Test.YtoafebndlldclaaRd
import Derived.Test.YtoafebndlldclaaArgsW
import Derived.OpenShut
import Derived.Deep.RegionWith
namespace Go.Proofs.Ytoafebndlldclaa.Dk
open Go Go.RowKit Go.ChangeMaps Go.MapKept

def two (x y : Int) : ByteArray := ⟨#[UInt8.ofNat x.toNat, UInt8.ofNat y.toNat]⟩
theorem two_size (x y : Int) : (two x y).size = 2 := rfl
theorem two_len (x y : Int) : (two x y).data.toList.length = 2 := rfl
theorem conv_two (x y : Int) (hx : 0 ≤ x ∧ x < 256) (hy : 0 ≤ y ∧ y < 256) (w v : World) (hv : v.heap = (w.alloc (.cells #[.int .u8 x, .int .u8 y] 5)).heap) : (convert 30 9 (.slice (some ⟨w.heap.size, 0, none⟩) 2 2)).run Try.prog v = .ok (.string (two x y)) v := by
  have hc := conv_back [UInt8.ofNat x.toNat, UInt8.ofNat y.toNat] w.heap.size 2 v (fun j u hj => ?_)
  · exact hc
  · have : v.cell? ⟨w.heap.size, j, none⟩ = (w.alloc (.cells #[.int .u8 x, .int .u8 y] 5)).cell? ⟨w.heap.size, j, none⟩ := by unfold World.cell?; rw [hv]
    rw [this, World.cell?_alloc_at _ _ _ _ rfl]
    match j, hj with
    | 0, hj => simp [Lib.byteCells] at hj; subst hj; simp; omega
    | 1, hj => simp [Lib.byteCells] at hj; subst hj; simp; omega

theorem ownsMap_kp {P : Program} {k : TypeId} {R : Value → Option (DataW Unit × List MemPlace)} {w w' : World} {b n : Nat} {D : DataW Unit} {S : Nat → Prop} (h : w.ownsMap P k R b n D) (hk : Kp S w w') (hs : ¬ S b) : w'.ownsMap P k R b n D := by
  have hlt := h.lt
  obtain ⟨es, clock, hb, r⟩ := h
  exact ⟨es, clock, (hk.block b hlt hs).trans hb, r⟩
theorem At.other {W w w' : World} {b g bm : Nat} {D : DS} (h : At W w b g bm D) {ms : Nat} (hg : w.grownBy w' (some ms)) (hms : ¬ Foot b g bm ms) (hle : W.heap.size ≤ ms) : At W w' b g bm D :=
  ⟨h.disk.same hg.size (fun k hk => hg.block k (h.disk.lt hk) (fun e => by cases e; exact hms hk)), h.bel.grown hg h.bel.size (fun k e => by cases e; exact hle), h.hb, h.hg, h.hm⟩

theorem zero_text (w : World) : (zeroValue 9).run Try.prog w = .ok (.string ⟨#[]⟩) w := by kernel_rfl
theorem zero_int (w : World) : (zeroValue 3).run Try.prog w = .ok (.int .i64 0) w := by kernel_rfl

structure Inv1 (W : World) (b g bm ms : Nat) (syn : List (Option Bs)) (wr : World) : Prop where
  at_ : At W wr b g bm (D1 syn)
  len : syn.length = 16
  short : ∀ s, some s ∈ syn → s.length = 2
  map : wr.ownsMap Try.prog 3 (plainElem Try.prog 9) ms (Maps.size (datum syn)) (datum syn)
def Loop1 (W : World) (b g bm ms n : Nat) (i : Value) (wr : World) : Prop := ∃ (j : Nat) (syn : List (Option Bs)), i = .int .i64 j ∧ j ≤ n ∧ Inv1 W b g bm ms syn wr

structure Inv2 (W : World) (b g bm ms mt : Nat) (syn tch : List (Option Bs)) (D : DS) (wr : World) : Prop where
  at_ : At W wr b g bm D
  st : LastSt (lastOld syn) tch D
  len : tch.length = 16
  smap : wr.ownsMap Try.prog 3 (plainElem Try.prog 9) ms (Maps.size (datum syn)) (datum syn)
  tmap : wr.ownsMap Try.prog 3 (plainElem Try.prog 3) mt (Maps.size (datumT tch)) (datumT tch)
def Loop2 (W : World) (b g bm ms mt n : Nat) (syn : List (Option Bs)) (i : Value) (wr : World) : Prop := ∃ (j : Nat) (tch : List (Option Bs)) (D : DS), i = .int .i64 j ∧ j ≤ n ∧ Inv2 W b g bm ms mt syn tch D wr

theorem entsT_length (l : List (Option Bs)) : ∀ k, (entsT k l).length ≤ l.length := by
  induction l with
  | nil => intro k; simp [entsT]
  | cons x l ih =>
    intro k
    have := ih (k + 1)
    cases x <;> simp [entsT] <;> omega
theorem size_datumT {tch : List (Option Bs)} (h : tch.length = 16) : Maps.size (datumT tch) < maxLen := by
  have : Maps.size (datumT tch) ≤ tch.length := entsT_length tch 0
  unfold maxLen
  omega
theorem datumT_nones (n : Nat) : datumT (List.replicate n none) = .map [] := by
  unfold datumT
  congr 1
  have : ∀ (n k : Nat), entsT k (List.replicate n none) = [] := by
    intro n
    induction n with
    | zero => intro k; rfl
    | succ n ih => intro k; exact ih (k + 1)
  exact this n 0

theorem fatesAt_of_row {W w : World} {b g bm : Nat} {v : Value} {l : List Int} (hr : Rd.RowOf W (Value.int .i64) v l) (hb : Below W.heap.size W w) (hf : ∀ k, Foot b g bm k → W.heap.size ≤ k) (hl : l.length ≤ 9223372036854775807) (hw : ∀ x ∈ l, -9223372036854775808 ≤ x ∧ x ≤ 9223372036854775807) : FatesAt b g bm w v l := by
  obtain ⟨a, cap, h1, h2, _, h4⟩ := hr
  refine ⟨a, cap, h1, h2, hl, hw, fun hne => ?_⟩
  obtain ⟨fb, off, k0, k1, k2⟩ := h4 hne
  exact ⟨fb, off, k0, Nat.lt_of_lt_of_le k1 hb.size, fun h => by have := hf _ h; omega, fun j x hj => (hb.cell (p := ⟨fb, off + j, none⟩) k1).trans (k2 j x hj)⟩

structure Inv3 (W : World) (b g bm ms mt : Nat) (syn tch : List (Option Bs)) (D : DS) (wr : World) : Prop where
  at_ : At W wr b g bm D
  smap : wr.ownsMap Try.prog 3 (plainElem Try.prog 9) ms (Maps.size (datum syn)) (datum syn)
  tmap : wr.ownsMap Try.prog 3 (plainElem Try.prog 3) mt (Maps.size (datumT tch)) (datumT tch)
def Loop3 (W : World) (b g bm ms mt : Nat) (syn tch : List (Option Bs)) (D : DS) (i : Value) (wr : World) : Prop := ∃ (j : Nat), i = .int .i64 j ∧ j ≤ 16 ∧ Inv3 W b g bm ms mt syn tch D wr

theorem size_datum {syn : List (Option Bs)} (h : syn.length = 16) : Maps.size (datum syn) < maxLen := by
  have := datum_size syn
  unfold maxLen
  omega

set_option maxRecDepth 100000 in
set_option maxHeartbeats 8000000 in
theorem last_near (va vb vf : Value) (a c : List Int) (fu : Nat) (fates : List Int) (W : World) (RA : Rd.RowOf W (Value.int .u8) va a) (RB : Rd.RowOf W (Value.int .u8) vb c) (RF : Rd.RowOf W (Value.int .i64) vf fates)
    (ha : a.length ≤ 60) (hc : c.length ≤ 60) (hf : fates.length ≤ 60) (hfu : fu < 256) (wa : ∀ x ∈ a, 0 ≤ x ∧ x < 256) (wc : ∀ x ∈ c, 0 ≤ x ∧ x < 256) (wf : ∀ x ∈ fates, -9223372036854775808 ≤ x ∧ x ≤ 9223372036854775807) :
    Calls Try.prog 4 #[va, vb, .int .u8 fu, vf] W fun e w' => e = .returned (.bool true) ∧ Below W.heap.size W w' := by
  have hmm := @run_makeMap Try.prog
  obtain ⟨aA, cA, rfl⟩ := RA.len
  obtain ⟨aB, cB, rfl⟩ := RB.len
  obtain ⟨aF, cF, rfl⟩ := RF.len
  have h2 : decide (60 < a.length) = false := decide_eq_false (by omega)
  have h3 : decide (60 < c.length) = false := decide_eq_false (by omega)
  have h4 : decide (60 < fates.length) = false := decide_eq_false (by omega)
  have HRA := Lib.hid RA
  have HRB := Lib.hid RB
  have HRF := Lib.hid RF
  have HWA := Lib.hid wa
  have HWC := Lib.hid wc
  have HWF := Lib.hid wf
  clear RA RB RF wa wc wf
  go_enter Try.func4, Try.ntmps4
  go_wp2_with fail
  refine (shown_any _).mono ?_
  rintro e w0 ⟨rfl, hb0⟩
  go_wp2_with fail
  refine (made 16 (by decide) (by decide) W w0 hb0).mono ?_
  rintro e w1 ⟨b, g, bm, rfl, h, hb1, _⟩
  obtain ⟨ms, hms⟩ : ∃ ms, ms = w1.heap.size := ⟨_, rfl⟩
  have hnf : ¬ Foot b g bm ms := fun hf => by have := h.disk.lt hf; omega
  have hge : W.heap.size ≤ ms := by have := h.bel.size; omega
  have H1 : Hid (Inv1 W b g bm ms (List.replicate 16 none) (w1.alloc (.map #[] 0))) := ⟨h.alloc _, by simp, fun s hs => by simp at hs, by rw [hms]; exact World.ownsMap_made _ _ _ _⟩
  have HMS := Lib.hid hms
  have HNF := Lib.hid hnf
  have HB0 := Lib.hid hb0
  clear h hms hnf hb1 hb0
  go_wp2_with fail
  rw [← HMS.out]
  go_loopw [11, 12] (fun i _ wr => Loop1 W b g bm ms a.length i wr) (fun i _ _ => a.length - (intOf i).toNat)
  case atStart => exact ⟨0, _, rfl, Nat.zero_le _, H1.out⟩
  case round =>
    obtain ⟨j, syn, rfl, hj, hinv⟩ := hrel
    have HI := Lib.hid hinv
    clear hinv
    by_cases hlt : j < a.length
    · obtain ⟨x, hx⟩ : ∃ x, a[j]? = some x := ⟨_, List.getElem?_eq_getElem hlt⟩
      obtain ⟨bb, off, rfl, hbb, hcell⟩ := HRA.out.at_ hx
      have hcw : wr.cell? ⟨bb, off + j, none⟩ = some (.int .u8 x) := (HI.out.at_.bel.cell (p := ⟨bb, off + j, none⟩) hbb).trans hcell
      obtain ⟨hx0, hx1⟩ := HWA.out x (List.mem_of_getElem? hx)
      have hj60 : (j : Int) < 60 := by omega
      clear hcell hx
      have hcv := conv_two x j ⟨hx0, hx1⟩ ⟨by omega, by omega⟩ wr (wr.alloc (.cells #[.int .u8 x, .int .u8 j] 5)) rfl
      obtain ⟨z, hz⟩ : ∃ z, z = two x j := ⟨_, rfl⟩
      rw [← hz] at hcv
      obtain ⟨m, hm⟩ : ∃ m : Nat, x % 16 = m := ⟨(x % 16).toNat, by omega⟩
      have hm16 : m < 16 := by omega
      have HZ := Lib.hid hz
      have HM := Lib.hid hm
      clear hz hm
      have hcw' : (wr.alloc (.cells #[.int .u8 x, .int .u8 j] 5)).cell? ⟨bb, off + j, none⟩ = some (.int .u8 x) := by
        rw [World.cell?_alloc_lt _ _ _ (by have := HI.out.at_.bel.size; show bb < _; omega)]; exact hcw
      go_wp2_with fail
      have hwr : Dk.write (D1 syn) (x % 16) z.data.toList = (D1 (syn.set m (some z.data.toList)), 0) := by
        rw [HM.out]; exact D1_write hm16 (by rw [HZ.out, two_len]; decide)
      have c1 := (HI.out.at_.alloc (.cells #[.int .u8 x, .int .u8 j] 5)).write (x % 16) z (by rw [HZ.out, two_size]; decide)
      rw [hwr] at c1
      have C1 := Lib.hid c1
      clear c1 hwr
      refine C1.out.mono ?_
      rintro e w3 ⟨rfl, h, hk⟩
      have hmap := ownsMap_kp (HI.out.map.alloc (.cells #[.int .u8 x, .int .u8 j] 5)) hk HNF.out
      have hcw3 : w3.cell? ⟨bb, off + j, none⟩ = some (.int .u8 x) := (hk.cell (p := ⟨bb, off + j, none⟩) (by have := HI.out.at_.bel.size; show bb < _; simp; omega) (fun hf => by have := h.foot hf; simp at this; omega)).trans hcw'
      have H3 := Lib.hid h
      have hsz := size_datum HI.out.len
      have hzl : z.size ≤ maxLen := by rw [HZ.out, two_size]; decide
      clear h hk C1 hcv hcw hcw'
      go_wp2_with (at_mapUpdate; refine wpList_mapUpdate_in _ rfl _ _ _ 34 rfl 3 9 (Maps.int_keyed Try.underlying3) Try.underlying34 _ ms _ (datum syn) rfl hmap hsz _ _ _ rfl rfl (Maps.keyOf_int_mk Try.underlying3 (WalkArith.wf_i64 (by omega))) _ [] (plainElem_string Try.underlying9 hzl) ?_; intro w4 hown4 hturn4)
      go_roundw
      case rel =>
        rw [HM.out, datum_put _ _ (by rw [HI.out.len]; exact hm16)] at hown4
        exact ⟨j + 1, syn.set m (some z.data.toList), by go_num, hlt, H3.out.other hturn4.grown HNF.out hge, by rw [List.length_set]; exact HI.out.len, fun s hs => by
          rcases List.mem_or_eq_of_mem_set hs with hs | hs
          · exact HI.out.short s hs
          · cases hs; rw [HZ.out]; rfl, ownsMap_size hown4⟩
      case measure => simp [intOf]; omega
    · have hj0 := hj
      have hsy := D1_sync HI.out.len
      have c1 := HI.out.at_.sync
      rw [hsy] at c1
      have C1 := Lib.hid c1
      clear c1 hsy
      go_wp2_with fail
      refine C1.out.mono ?_
      rintro e w3 ⟨rfl, h, hk⟩
      have hmap := ownsMap_kp HI.out.map hk HNF.out
      have HMAP3 := Lib.hid hmap
      have H3 := Lib.hid h
      clear h hk hmap C1
      have c2 := H3.out.dirty
      rw [show dirty ⟨lastOld syn, syn.map fun _ => none, 0, false⟩ = [] from dirty_none _ _ _ _] at c2
      have C2 := Lib.hid c2
      clear c2
      go_wp2_with fail
      refine C2.out.mono ?_
      rintro e w4 ⟨v, rfl, hv, h, hk⟩
      obtain ⟨A, cc, rfl⟩ := owns_len hv
      have hmap := ownsMap_kp HMAP3.out hk HNF.out
      have HMAP4 := Lib.hid hmap
      have H4 := Lib.hid h
      clear h hk hmap C2 hv
      have hlen0 : List.length ([] : List Nat) = 0 := rfl
      rw [hlen0]
      go_wp2_with fail
      obtain ⟨kf, hkf⟩ : ∃ kf : Int, (fu : Int) % 40 = kf := ⟨_, rfl⟩
      have hkf2 : kf ≤ 40 := by omega
      rw [hkf]
      clear hkf
      have C5 := Lib.hid (H4.out.setFuse kf (by omega))
      refine C5.out.mono ?_
      rintro e w5 ⟨rfl, h, hk⟩
      have hmap := ownsMap_kp HMAP4.out hk HNF.out
      have HMAP5 := Lib.hid hmap
      have H5 := Lib.hid h
      clear h hk hmap C5
      go_wp2_with fail
      obtain ⟨mt, hmt⟩ : ∃ mt, mt = w5.heap.size := ⟨_, rfl⟩
      have hnf2 : ¬ Foot b g bm mt := fun hf => by have := H5.out.disk.lt hf; omega
      have hge2 : W.heap.size ≤ mt := by have := H5.out.bel.size; omega
      have hmst : ms ≠ mt := by have := HMAP5.out.lt; omega
      have H6 : Hid (Inv2 W b g bm ms mt syn (List.replicate 16 none) (setFuse ⟨lastOld syn, syn.map fun _ => none, 0, false⟩ kf) (w5.alloc (.map #[] 0))) :=
        ⟨H5.out.alloc _, ⟨rfl, by simp [setFuse, lastOld], fun i _ => by simp [setFuse, List.getD_eq_getElem?_getD]; cases syn[i]? <;> rfl⟩, by simp, HMAP5.out.alloc _, by rw [datumT_nones, hmt]; exact World.ownsMap_made _ _ _ _⟩
      have HMT := Lib.hid hmt
      have HNF2 := Lib.hid hnf2
      clear hmt hnf2
      rw [← HMT.out]
      go_loopw [14] (fun i wr => Loop2 W b g bm ms mt c.length syn i wr) (fun i _ => c.length - (intOf i).toNat)
      case atStart => exact ⟨0, _, _, rfl, Nat.zero_le _, H6.out⟩
      case round =>
        obtain ⟨j2, tch, D, rfl, hj2, hinv⟩ := hrel
        have HI2 := Lib.hid hinv
        clear hinv
        by_cases hlt2 : j2 < c.length
        · obtain ⟨x, hx⟩ : ∃ x, c[j2]? = some x := ⟨_, List.getElem?_eq_getElem hlt2⟩
          obtain ⟨bb, off, rfl, hbb, hcell⟩ := HRB.out.at_ hx
          have hcw : wr.cell? ⟨bb, off + j2, none⟩ = some (.int .u8 x) := (HI2.out.at_.bel.cell (p := ⟨bb, off + j2, none⟩) hbb).trans hcell
          obtain ⟨hx0, hx1⟩ := HWC.out x (List.mem_of_getElem? hx)
          have hj60 : (j2 : Int) < 60 := by omega
          clear hcell hx
          have hcv := conv_two 1 j2 ⟨by decide, by decide⟩ ⟨by omega, by omega⟩ wr (wr.alloc (.cells #[.int .u8 1, .int .u8 j2] 5)).drew rfl
          obtain ⟨z, hz⟩ : ∃ z, z = two 1 j2 := ⟨_, rfl⟩
          rw [← hz] at hcv
          obtain ⟨m, hm⟩ : ∃ m : Nat, x % 16 = m := ⟨(x % 16).toNat, by omega⟩
          have hm16 : m < 16 := by omega
          have HZ := Lib.hid hz
          have HM := Lib.hid hm
          clear hz hm
          have hcw' : (wr.alloc (.cells #[.int .u8 1, .int .u8 j2] 5)).cell? ⟨bb, off + j2, none⟩ = some (.int .u8 x) := by
            rw [World.cell?_alloc_lt _ _ _ (by have := HI2.out.at_.bel.size; show bb < _; omega)]; exact hcw
          have c1 := (HI2.out.at_.alloc (.cells #[.int .u8 1, .int .u8 j2] 5)).drew.write (x % 16) z (by rw [HZ.out, two_size]; decide)
          have hol : (lastOld syn).length = 16 := by unfold lastOld; rw [List.length_map]; exact HI.out.len
          rcases HI2.out.st.write (by rw [HI2.out.len, hol]) (i := m) (by rw [hol]; exact hm16) (s := z.data.toList) (by rw [HZ.out, two_len]; decide) with ⟨e2, st⟩ | ⟨e2, st⟩
          · rw [← HM.out] at e2 st
            rw [e2] at c1
            have C1 := Lib.hid c1
            have ST := Lib.hid st
            clear c1 e2 st hol
            have hw8 : IntKind.u8.wrap (j2 : Int) = (j2 : Int) := IntWalk.u8_in _ (by omega)
            have htm : x.tmod 16 = x % 16 := Int.tmod_eq_emod_of_nonneg hx0
            have hxw : IntKind.i64.wrap x = x := IntWalk.i64_in _ (by omega)
            have hbbs : bb < w0.heap.size := by have := HB0.out.size; omega
            go_wp2_with fail
            go_region_with (go_at_call 10; refine C1.out.mono ?_; rintro e w6 ⟨rfl, h, hk⟩)
            all_goals clear hw8 htm hxw hcv
            all_goals have hsm := ownsMap_kp ((HI2.out.smap.alloc (.cells #[.int .u8 1, .int .u8 j2] 5)).drew) hk HNF.out
            all_goals have htm := ownsMap_kp ((HI2.out.tmap.alloc (.cells #[.int .u8 1, .int .u8 j2] 5)).drew) hk HNF2.out
            all_goals have hcw6 : w6.cell? ⟨bb, off + j2, none⟩ = some (.int .u8 x) := (hk.cell (p := ⟨bb, off + j2, none⟩) (by have := HI2.out.at_.bel.size; show bb < _; simp; omega) (fun hf => by have := h.foot hf; simp at this; omega)).trans hcw'
            all_goals have H7 := Lib.hid h
            all_goals have HSM := Lib.hid hsm
            all_goals have hszt := size_datumT HI2.out.len
            all_goals clear h hk hsm hcw hcw'
            all_goals go_wp2_with (at_mapUpdate; refine wpList_mapUpdate_in _ rfl _ _ _ 37 rfl 3 3 (Maps.int_keyed Try.underlying3) Try.underlying37 _ mt _ (datumT tch) rfl htm hszt _ _ _ rfl rfl (Maps.keyOf_int_mk Try.underlying3 (WalkArith.wf_i64 (by omega))) _ [] (plainElem_int Try.underlying3 (by decide)) ?_; intro w8 hown8 hturn8)
            all_goals
              go_roundw
              case rel =>
                have hown9 := hown8
                rw [HM.out] at hown9
                rw [show (datumT tch).put (.int .i64 m) (.lit (.int .i64 1)) = datumT (tch.set m (some [])) from datumT_put _ _ (by rw [HI2.out.len]; exact hm16) _] at hown9
                exact ⟨j2 + 1, _, _, by go_num, hlt2, H7.out.other hturn8.grown HNF2.out hge2, ST.out, by rw [List.length_set]; exact HI2.out.len, HSM.out.kept hturn8.grown (fun e => hmst (Option.some.inj e)), ownsMap_size hown9⟩
              case measure => simp [intOf]; omega
          · rw [← HM.out] at e2 st
            rw [e2] at c1
            have C1 := Lib.hid c1
            have ST := Lib.hid st
            clear c1 e2 st hol
            have hw8 : IntKind.u8.wrap (j2 : Int) = (j2 : Int) := IntWalk.u8_in _ (by omega)
            have htm : x.tmod 16 = x % 16 := Int.tmod_eq_emod_of_nonneg hx0
            have hxw : IntKind.i64.wrap x = x := IntWalk.i64_in _ (by omega)
            have hbbs : bb < w0.heap.size := by have := HB0.out.size; omega
            go_wp2_with fail
            go_region_with (go_at_call 10; refine C1.out.mono ?_; rintro e w6 ⟨rfl, h, hk⟩)
            all_goals clear hw8 htm hxw hcv
            all_goals have hsm := ownsMap_kp ((HI2.out.smap.alloc (.cells #[.int .u8 1, .int .u8 j2] 5)).drew) hk HNF.out
            all_goals have htm := ownsMap_kp ((HI2.out.tmap.alloc (.cells #[.int .u8 1, .int .u8 j2] 5)).drew) hk HNF2.out
            all_goals have hcw6 : w6.cell? ⟨bb, off + j2, none⟩ = some (.int .u8 x) := (hk.cell (p := ⟨bb, off + j2, none⟩) (by have := HI2.out.at_.bel.size; show bb < _; simp; omega) (fun hf => by have := h.foot hf; simp at this; omega)).trans hcw'
            all_goals have H7 := Lib.hid h
            all_goals have HSM := Lib.hid hsm
            all_goals clear h hk hsm hcw hcw'
            all_goals go_wp2_with fail
            all_goals
              go_roundw
              case rel => exact ⟨j2 + 1, _, _, by go_num, hlt2, H7.out, ST.out, HI2.out.len, HSM.out, htm⟩
              case measure => simp [intOf]; omega
        · have c1 := HI2.out.at_.cut
          have C1 := Lib.hid c1
          clear c1
          go_wp2_with fail
          refine C1.out.mono ?_
          rintro e w6 ⟨rfl, h, hk⟩
          have H6 := Lib.hid h
          have HS6 := Lib.hid (ownsMap_kp HI2.out.smap hk HNF.out)
          have HT6 := Lib.hid (ownsMap_kp HI2.out.tmap hk HNF2.out)
          clear h hk C1
          have hrd : Dk.read (Dk.cut D) 0 = ([], 180) := by unfold Dk.read; rw [within_off (show (Dk.cut D).off = true from rfl), if_pos (by decide)]
          have c2 := H6.out.read 0
          rw [hrd] at c2
          have C2 := Lib.hid c2
          clear c2 hrd
          go_wp2_with fail
          refine C2.out.mono ?_
          rintro e w7 ⟨rfl, h, hk⟩
          have H7 := Lib.hid h
          have HS7 := Lib.hid (ownsMap_kp HS6.out hk HNF.out)
          have HT7 := Lib.hid (ownsMap_kp HT6.out hk HNF2.out)
          clear h hk C2
          obtain ⟨olds3, hon, hol3, hsame⟩ := LastSt.on (D := Dk.cut D) ⟨HI2.out.st.olds, HI2.out.st.len, HI2.out.st.none⟩ rfl fates
          have c3 := H7.out.on _ fates (fatesAt_of_row HRF.out H7.out.bel (fun k hk => H7.out.foot hk) (by omega) HWF.out)
          rw [hon] at c3
          have C3 := Lib.hid c3
          have HOL3 := Lib.hid hol3
          have HSAME := Lib.hid hsame
          clear c3 hon hol3 hsame
          go_wp2_with fail
          refine C3.out.mono ?_
          rintro e w8 ⟨rfl, h, hk⟩
          have H8 := Lib.hid h
          have HS8 := Lib.hid (ownsMap_kp HS7.out hk HNF.out)
          have HT8 := Lib.hid (ownsMap_kp HT7.out hk HNF2.out)
          clear h hk C3
          have hnot : ∀ (x : Bool) (w : World), (Op.unary .not (.bool x)).run Try.prog w = .ok (.bool (!x)) w := fun _ _ => rfl
          go_wp2_with fail
          refine H8.out.up.mono ?_
          rintro e w9 ⟨rfl, rfl⟩
          have hloop : Hid (Inv3 W b g bm ms mt syn tch ⟨olds3, (Dk.cut D).news.map fun _ => none, 0, false⟩ w8) := ⟨H8.out, HS8.out, HT8.out⟩
          go_wp2_with fail
          go_loopw [17] (fun i wr => Loop3 W b g bm ms mt syn tch ⟨olds3, (Dk.cut D).news.map fun _ => none, 0, false⟩ i wr) (fun i _ => 16 - (intOf i).toNat)
          case atStart => exact ⟨0, rfl, by omega, hloop.out⟩
          case round =>
            obtain ⟨j3, rfl, hj3, hinv⟩ := hrel
            have HI3 := Lib.hid hinv
            clear hinv
            by_cases hlt3 : j3 < 16
            · have hlt3i : (j3 : Int) < 16 := by omega
              have hol : (lastOld syn).length = 16 := by unfold lastOld; rw [List.length_map]; exact HI.out.len
              have hrd : Dk.read ⟨olds3, (Dk.cut D).news.map fun _ => none, 0, false⟩ j3 = (olds3.getD j3 [], 0) := read_free (by rw [HOL3.out, hol]; exact hlt3)
              have hol64 : (olds3.getD j3 []).length = 64 := by
                have hlt4 : j3 < olds3.length := by rw [HOL3.out, hol]; exact hlt3
                rw [List.getD_eq_getElem?_getD, List.getElem?_eq_getElem hlt4]
                exact HI3.out.at_.disk.ok.old _ (List.getElem_mem _)
              obtain ⟨sx, hsx⟩ : ∃ sx : ByteArray, sx = ⟨(olds3.getD j3 []).toArray⟩ := ⟨_, rfl⟩
              have hsz : sx.size = 64 := by rw [hsx]; show (olds3.getD j3 []).toArray.size = 64; rw [List.size_toArray]; exact hol64
              have ht64 : ((sx.size : Int) != 64) = false := by rw [bne_eq_false_iff_eq]; omega
              have c1 := HI3.out.at_.read j3
              rw [hrd, ← hsx] at c1
              have C1 := Lib.hid c1
              have HSX := Lib.hid hsx
              obtain ⟨z, hz⟩ : ∃ z : ByteArray, z.data.toList = (syn.getD j3 none).getD [] := ⟨⟨((syn.getD j3 none).getD []).toArray⟩, by simp⟩
              have hzs : z.size ≤ 64 := by
                have h1 : z.size = ((syn.getD j3 none).getD []).length := by rw [← hz, Array.length_toList]; rfl
                rw [h1]
                cases hn : syn.getD j3 none with
                | none => simp
                | some u =>
                  rw [List.getD_eq_getElem?_getD] at hn
                  cases hn2 : syn[j3]? with
                  | none => rw [hn2] at hn; cases hn
                  | some y =>
                    rw [hn2] at hn
                    cases hn
                    have := HI.out.short u (List.mem_of_getElem? hn2)
                    simp [this]
              have HZ := Lib.hid hz
              clear c1 hrd hol64 hsx hz hsz
              go_wp2_with fail
              refine C1.out.mono ?_
              rintro e wa ⟨rfl, h, hk⟩
              have HA := Lib.hid h
              have hsm := ownsMap_kp HI3.out.smap hk HNF.out
              have htm := ownsMap_kp HI3.out.tmap hk HNF2.out
              have HTM := Lib.hid htm
              have HSM := Lib.hid hsm
              clear h hk C1 hsm htm
              cases htj : tch.getD j3 none with
              | some u =>
                have HTJ := Lib.hid htj
                clear htj
                go_wp2_with (first
                  | (at_lookup; refine wpList_lookup_text rfl _ _ 34 3 9 rfl (Maps.int_keyed Try.underlying3) Try.underlying34 Try.underlying3 Try.underlying9 (zero_text _) ms _ syn rfl HSM.out j3 (by omega) rfl z HZ.out ?_)
                  | (refine wpList_unguard rfl ?_; refine wpList_lookup_touch rfl _ _ 37 3 3 rfl (Maps.int_keyed Try.underlying3) Try.underlying37 Try.underlying3 Try.underlying3 (zero_int _) mt _ tch rfl HTM.out j3 (by omega) rfl 1 (by rw [HTJ.out]; rfl) ?_))
                go_roundw
                case rel => exact ⟨j3 + 1, by go_num, hlt3, HA.out, HSM.out, HTM.out⟩
                case measure => simp [intOf]; omega
              | none =>
                obtain ⟨zz, hzz, hzzs⟩ := zeros_text (64 - z.size)
                have hzz2 : zz.size ≤ 64 := by omega
                have heq : (sx.toList == (z ++ zz).toList) = true := by
                  rw [beq_iff_eq, ByteArray.toList_eq, ByteArray.toList_eq, ByteArray.data_append, Array.toList_append, HSX.out, hzz, HZ.out]
                  have h1 := HSAME.out j3 htj
                  have h2 : (lastOld syn)[j3]? = some (pad ((syn.getD j3 none).getD [])) := by
                    unfold lastOld
                    rw [List.getElem?_map, List.getD_eq_getElem?_getD, List.getElem?_eq_getElem (by rw [HI.out.len]; exact hlt3)]
                    rfl
                  rw [h2] at h1
                  rw [List.getD_eq_getElem?_getD, h1]
                  have h3 : z.size = ((syn.getD j3 none).getD []).length := by rw [← HZ.out, Array.length_toList]; rfl
                  rw [h3]
                  rfl
                have HZZ := Lib.hid hzz
                have HTJ := Lib.hid htj
                clear htj hzz hzzs
                go_wp2_with (first
                  | (at_lookup; refine wpList_lookup_text rfl _ _ 34 3 9 rfl (Maps.int_keyed Try.underlying3) Try.underlying34 Try.underlying3 Try.underlying9 (zero_text _) ms _ syn rfl HSM.out j3 (by omega) rfl z HZ.out ?_)
                  | (refine wpList_unguard rfl ?_; refine wpList_lookup_touch rfl _ _ 37 3 3 rfl (Maps.int_keyed Try.underlying3) Try.underlying37 Try.underlying3 Try.underlying3 (zero_int _) mt _ tch rfl HTM.out j3 (by omega) rfl 0 (by rw [HTJ.out]; rfl) ?_)
                  | (refine wpList_unguard rfl ?_; refine wpList_make_bytes rfl _ _ 30 5 rfl Try.underlying30 u8_info (64 - z.size) _ (by omega) rfl rfl (by omega) ?_)
                  | (refine wpList_unguard rfl ?_; refine wpList_conv_new rfl 30 9 5 _ rfl Try.underlying30 Try.underlying5 Try.underlying9 wa (zeros (64 - z.size)) 5 rfl _ _ _ rfl (zeros_length _).symm rfl zz HZZ.out ?_))
                go_roundw
                case rel => exact ⟨j3 + 1, by go_num, hlt3, HA.out.alloc _, HSM.out.alloc _, HTM.out.alloc _⟩
                case measure => simp [intOf]; omega
            · go_wp2_with fail
              go_ret
              exact ⟨rfl, HI3.out.at_.bel⟩

set_option maxRecDepth 100000 in
set_option maxHeartbeats 1000000 in
theorem last_far (va vb vf : Value) (a c : List Int) (fu : Int) (fates : List Int) (W : World) (RA : Rd.RowOf W (Value.int .u8) va a) (RB : Rd.RowOf W (Value.int .u8) vb c) (RF : Rd.RowOf W (Value.int .i64) vf fates)
    (h : 60 < a.length ∨ 60 < c.length ∨ 60 < fates.length) :
    Calls Try.prog 4 #[va, vb, .int .u8 fu, vf] W fun e w' => e = .returned (.bool true) ∧ Below W.heap.size W w' := by
  obtain ⟨aA, cA, rfl⟩ := RA.len
  obtain ⟨aB, cB, rfl⟩ := RB.len
  obtain ⟨aF, cF, rfl⟩ := RF.len
  clear RA RB RF
  by_cases h1 : 60 < a.length
  · have h2 : decide (60 < a.length) = true := decide_eq_true h1
    clear h
    go_enter Try.func4, Try.ntmps4
    go_wp2_with (go_at_call 8; refine (shown_any _).mono ?_; rintro e' w' ⟨rfl, hb⟩)
    go_ret
    exact ⟨rfl, hb⟩
  · have h2 : decide (60 < a.length) = false := decide_eq_false h1
    by_cases h3 : 60 < c.length
    · have h4 : decide (60 < c.length) = true := decide_eq_true h3
      clear h
      go_enter Try.func4, Try.ntmps4
      go_wp2_with (go_at_call 8; refine (shown_any _).mono ?_; rintro e' w' ⟨rfl, hb⟩)
      go_ret
      exact ⟨rfl, hb⟩
    · have h4 : decide (60 < c.length) = false := decide_eq_false h3
      have h5 : 60 < fates.length := by omega
      have h6 : decide (60 < fates.length) = true := decide_eq_true h5
      clear h
      go_enter Try.func4, Try.ntmps4
      go_wp2_with (go_at_call 8; refine (shown_any _).mono ?_; rintro e' w' ⟨rfl, hb⟩)
      go_ret
      exact ⟨rfl, hb⟩

theorem last_walk (va : Value) (la : List Int) (vb : Value) (lb : List Int) (a2 : Int) (vf : Value) (lf : List Int) (W : World) (RA : Rd.Reads W (.sl (.int .u8)) [va] la) (RB : Rd.Reads W (.sl (.int .u8)) [vb] lb) (h2 : (Lit.int .u8 a2).wf = true) (RF : Rd.Reads W (.sl (.int .i64)) [vf] lf) :
    Calls Try.prog 4 #[va, vb, .int .u8 a2, vf] W fun e w' => e = .returned (.bool true) ∧ Below W.heap.size W w' := by
  obtain ⟨b0, b1⟩ := bounds_u8 h2
  obtain ⟨f, rfl⟩ := Int.eq_ofNat_of_zero_le b0
  obtain ⟨ra, wa⟩ := Rd.row_ints RA
  obtain ⟨rb, wb⟩ := Rd.row_ints RB
  obtain ⟨rf, wf⟩ := Rd.row_ints RF
  by_cases hl : la.length ≤ 60 ∧ lb.length ≤ 60 ∧ lf.length ≤ 60
  · exact last_near va vb vf la lb f lf W ra rb rf hl.1 hl.2.1 hl.2.2 (by omega) (fun x hx => by obtain ⟨p, q⟩ := bounds_u8 (wa x hx); omega) (fun x hx => by obtain ⟨p, q⟩ := bounds_u8 (wb x hx); omega) (fun x hx => by obtain ⟨p, q⟩ := bounds_i64 (wf x hx); omega)
  · exact last_far va vb vf la lb f lf W ra rb rf (by omega)
end Go.Proofs.Ytoafebndlldclaa.Dk
