/- The call of an area's clean is proved. -/
import Derived.Test.YtoafebndlldclaaDoorSe
import Derived.Test.YtoafebndlldclaaDoorPa
import Derived.Test.YtoafebndlldclaaDoorDb
import Derived.Test.YtoafebndlldclaaDoorSb
import Derived.RegionTactic
import Derived.RegionIn
import Derived.Stop.RegionWithIn
namespace Go.Proofs.YtoafebndlldclaaDoor.Wl
open Go Go.RowKit Go.Shelf Dk Sn
attribute [local go_sem] Oper.semAt_some
variable {w : World} {b g bm : Nat} {D : DS}

/-- between two rounds -/
structure CleanAt (w : World) (b g bm fr to_ en nd : Nat) (R : DS × Int) (pre : List Sec) (W : World) : Prop where
  area : Area W w.heap.size b fr to_
  area2 : Area W (w.heap.size + 4) b fr to_
  en_ : Boxed W (w.heap.size + 1) 3 (.int .i64 en)
  err : Boxed W (w.heap.size + 2) 28 (.int .i64 0)
  st : ∃ (D' : DS) (wr : Bool), IsDisk W b g bm D' ∧ D'.olds.length = nd ∧ Boxed W (w.heap.size + 3) 4 (.bool wr) ∧ cleanGo en fr (to_ - fr - pre.length) pre.length D' wr = R
  kp : Kp (Foot b g bm) w W
/-- the body has returned an error -/
structure CleanOut (w : World) (b g bm : Nat) (R : DS × Int) (W : World) : Prop where
  err : ∃ e : Int, Boxed W (w.heap.size + 2) 28 (.int .i64 e) ∧ R.2 = e
  st : IsDisk W b g bm R.1
  kp : Kp (Foot b g bm) w W

section
variable {W W' : World} {fr to_ en nd : Nat} {R : DS × Int} {pre : List Sec} {row : Option Nat} {Z : Nat}
theorem kp_grown {S : Nat → Prop} (h : Kp S w W) (hg : W.grownBy W' row) (hr : ∀ r, row = some r → w.heap.size ≤ r) : Kp S w W' := h.grownBy hg (fun j e => .inr (hr j e))
theorem disk_grown (h : IsDisk W b g bm D) (hg : W.grownBy W' row) (hr : ∀ r, row = some r → ¬ Foot b g bm r) : IsDisk W' b g bm D :=
  h.same hg.size fun k hk => hg.block k (h.lt hk) (fun e => hr k e.symm hk)
theorem blk_grown {B : Nat} {o : Obj} (h : W.heap[B]? = some o) (hg : W.grownBy W' row) (hr : ∀ r, row = some r → r ≠ B) : W'.heap[B]? = some o :=
  (hg.block B (Array.getElem?_eq_some_iff.1 h).1 (fun e => hr B e.symm rfl)).trans h
theorem at_alloc {B : Nat} {o : Obj} (h : W.heap[B]? = some o) (o' : Obj) : (W.alloc o').heap[B]? = some o := blk_grown h (World.grownBy_alloc W o' none) (fun r e => by cases e)
theorem new_alloc (W : World) (o : Obj) {B : Nat} (hB : W.heap.size = B) : (W.alloc o).heap[B]? = some o := by rw [← hB]; exact World.alloc_heap_new W o
theorem CleanAt.grown (h : CleanAt w b g bm fr to_ en nd R pre W) (hlow : ∀ k, Foot b g bm k → k < w.heap.size) (hg : W.grownBy W' row) (hr : ∀ r, row = some r → w.heap.size + 5 ≤ r) : CleanAt w b g bm fr to_ en nd R pre W' := by
  obtain ⟨D', wr, k1, k2, k3, k4⟩ := h.st
  exact ⟨blk_grown h.area hg (fun r e => by have := hr r e; omega), blk_grown h.area2 hg (fun r e => by have := hr r e; omega), blk_grown h.en_ hg (fun r e => by have := hr r e; omega), blk_grown h.err hg (fun r e => by have := hr r e; omega),
    ⟨D', wr, disk_grown k1 hg (fun r e hf => by have := hr r e; have := hlow r hf; omega), k2, blk_grown k3 hg (fun r e => by have := hr r e; omega), k4⟩, kp_grown h.kp hg (fun r e => by have := hr r e; omega)⟩
theorem CleanOut.grown (h : CleanOut w b g bm R W) (hlow : ∀ k, Foot b g bm k → k < w.heap.size) (hg : W.grownBy W' row) (hr : ∀ r, row = some r → w.heap.size + 5 ≤ r) : CleanOut w b g bm R W' := by
  obtain ⟨e, k1, k2⟩ := h.err
  exact ⟨⟨e, blk_grown k1 hg (fun r e => by have := hr r e; omega), k2⟩, disk_grown h.st hg (fun r e hf => by have := hr r e; have := hlow r hf; omega), kp_grown h.kp hg (fun r e => by have := hr r e; omega)⟩
end

/-- the call ends: what was collected is taken, the error is read -/
theorem fin_disk {Wx : World} {D2 : Nat} {DR : DS} (h : IsDisk Wx b g bm DR) (hn : ¬ Foot b g bm D2) : IsDisk (Wx.putObj D2 (.deferred none)) b g bm DR :=
  disk_grown h (grownBy_putObj' Wx D2 (.deferred none)) (fun r e => by cases e; exact hn)
theorem fin_kp {S : Nat → Prop} {W0 Wx : World} {D2 : Nat} (h : Kp S W0 Wx) (hn : W0.heap.size ≤ D2) : Kp S W0 (Wx.putObj D2 (.deferred none)) :=
  h.grownBy (grownBy_putObj' Wx D2 (.deferred none)) (fun j e => by cases e; exact .inr hn)
theorem fin_cell {Wx : World} {D2 B : Nat} {T : TypeId} {v : Value} (h : Boxed Wx B T v) (hn : B ≠ D2) : (Wx.putObj D2 (.deferred none)).cell? ⟨B, 0, none⟩ = some v :=
  (h.kept (grownBy_putObj' Wx D2 (.deferred none)) (by simpa using hn)).cell

set_option maxRecDepth 100000 in
set_option maxHeartbeats 4000000 in
theorem clean_aux (h : IsDisk w b g bm D) (fr to_ en : Nat) (hft : fr ≤ to_) (hto : to_ ≤ D.olds.length) (hen : en ≤ 1073741824) (R : DS × Int) (hR : clean D fr to_ en = R) :
    Calls Tryd.prog 50 #[.agg #[.pointer (some ⟨b, 0, none⟩), .int .i64 fr, .int .i64 to_], .int .i64 en] w fun e w' => e = .returned (.int .i64 R.2) ∧ IsDisk w' b g bm R.1 ∧ Kp (Foot b g bm) w w' := by
  have HH := Lib.hid h
  clear h
  refine (callsIn_wide (n := 6)).1 ?_
  refine callsIn_of_wp_marks Tryd.func50 rfl trivial ?_ rfl
  simp only [Tryd.ntmps50, List.size_toArray, List.length_cons, List.length_nil, Nat.reduceAdd, Nat.reduceSub, Array.replicate_succ, Array.replicate_zero, List.push_toArray, List.append_toArray, List.nil_append, List.cons_append]
  gi_wp2_with (refine ⟨trivial, ?_⟩; gi_at_call 46; refine (callsIn_wide.2 (sectors_any _ _ _ _)).mono ?_; rintro e w' ⟨rfl, rfl⟩)
  obtain ⟨W0, hW0⟩ : ∃ W0, ((((w.alloc (.cells #[.pointer (some ⟨b, 0, none⟩), .int .i64 fr, .int .i64 to_] 83)).alloc (.cells #[.int .i64 en] 3)).alloc (.cells #[.int .i64 0] 28)).alloc (.cells #[.bool false] 4)).alloc (.cells #[.pointer (some ⟨b, 0, none⟩), .int .i64 fr, .int .i64 to_] 83) = W0 := ⟨_, rfl⟩
  have hs : W0.heap.size = w.heap.size + 5 := by rw [← hW0]; simp
  have hlow : ∀ k, Foot b g bm k → k < w.heap.size := fun k hk => HH.out.lt hk
  have hC : CleanAt w b g bm fr to_ en D.olds.length R [] W0 := by
    rw [← hW0]
    refine ⟨?_, ?_, ?_, ?_, ⟨D, false, ?_, rfl, ?_, by rw [← hR]; rfl⟩, ?_⟩
    · exact at_alloc (at_alloc (at_alloc (at_alloc (new_alloc w _ rfl) _) _) _) _
    · exact new_alloc _ _ (by simp)
    · exact at_alloc (at_alloc (at_alloc (new_alloc _ _ (by simp)) _) _) _
    · exact at_alloc (at_alloc (new_alloc _ _ (by simp)) _) _
    · exact ((((HH.out.alloc _).alloc _).alloc _).alloc _).alloc _
    · exact at_alloc (new_alloc _ _ (by simp)) _
    · exact (((((Kp.refl _ w).alloc _).alloc _).alloc _).alloc _).alloc _
  rw [hW0]
  clear hW0 hR
  have h4096 : D.olds.length ≤ 4096 := HH.out.ok.hi
  refine wpIn_rangeFunc_seen rfl (by omega) (gf := 63) (lb := #[.pointer (some ⟨w.heap.size + 4, 0, none⟩)]) rfl trivial (enters_of Tryd.func63 (by kernel_rfl) rfl)
    (sectors_seen 5 (by omega) (w.heap.size + 4) b g bm fr to_ D.olds.length hft (by omega) W0 hC.area2 (by obtain ⟨D', wr, k1, k2, _⟩ := hC.st; exact ⟨D', k1, k2⟩)) (Kp := KpS (w.heap.size + 4) b g bm D.olds.length)
    (fun hA hB => ⟨hB.1.trans hA.1, fun D1 h1 n1 => by obtain ⟨D2, h2, n2⟩ := hA.2 D1 h1 n1; exact hB.2 D2 h2 n2⟩)
    (fun W l o o' hl ho _ _ => ⟨World.putObj_heap_other (by omega), fun D1 h1 n1 => ⟨D1, h1.same (by simp [World.putObj]) (fun k hk => World.putObj_heap_other (by have := hlow k hk; omega)), n1⟩⟩) (Below.refl _ _) (fun _ => rfl)
    (fun pre W => CleanAt w b g bm fr to_ en D.olds.length R pre W) (fun c _ W => c = .ret ∧ CleanOut w b g bm R W)
    (fun s X Y row hs2 hg hr => hs2.grown hlow hg (fun r e => by have := (hr r e).1; omega))
    (fun c s X Y row hs2 hg hr => ⟨hs2.1, hs2.2.grown hlow hg (fun r e => by have := (hr r e).1; omega)⟩)
    hC
    (fun pre x a' W => SeenS b g bm fr pre x W ∧ a' = { tmps := #[.agg #[.pointer (some ⟨b, 0, none⟩), .int .i64 fr, .int .i64 to_], .int .i64 en, .pointer (some ⟨w.heap.size, 0, none⟩), .pointer (some ⟨w.heap.size + 1, 0, none⟩), .pointer (some ⟨w.heap.size + 2, 0, none⟩), .pointer (some ⟨w.heap.size + 3, 0, none⟩), .int .i64 x.1, .string ⟨x.2.toArray⟩, undef, undef, .agg #[.pointer (some ⟨b, 0, none⟩), .int .i64 fr, .int .i64 to_], .func (.func 63) #[] #[.pointer (some ⟨w.heap.size + 4, 0, none⟩)], .int .i64 x.1, .string ⟨x.2.toArray⟩, undef, undef, undef, undef, undef, undef, undef, undef, undef, undef, undef, undef, undef, undef, undef, undef, undef, undef, undef, undef, undef, undef, undef, undef, undef, undef, undef, undef], defers := [] })
    ?hAx ?hS ?hSp ?assign ?body ?done ?stop
  case hAx =>
    rintro pre x a' s X Z row ⟨⟨k1, D1, k2, k3⟩, k4⟩ hg hr
    exact ⟨⟨k1, D1, disk_grown k2 hg (fun r e hf => by have h1 := (hr r e).1; have h2 := hlow r hf; omega), k3⟩, k4⟩
  case hS =>
    rintro s X Z row ⟨k1, D1, k2, k3⟩ hg hr
    exact ⟨k1, D1, disk_grown k2 hg (fun r e hf => by have h1 := (hr r e).1; have h2 := hlow r hf; omega), k3⟩
  case hSp =>
    rintro s X Z row k1 hg hr
    exact k1
  case assign =>
    rintro l pre x W K hI hy hK
    obtain ⟨i, t⟩ := x
    simp only [encS]
    gi_wp2
    exact hK _ _ (KeepsFrom.refl _ _) ⟨rfl, fun D1 h1 n1 => ⟨D1, h1, n1⟩⟩ hI ⟨hy, rfl⟩
  case body =>
    rintro l pre x a' W hl hex hI ⟨⟨hx1, D1, hd1, hrd⟩, rfl⟩ hlt
    obtain ⟨i, t⟩ := x
    obtain ⟨D2, wr, st1, st2, st3, st4⟩ := hI.st
    obtain rfl := hd1.uniq st1
    simp only at hx1 hrd
    subst hx1
    obtain ⟨k, hk⟩ : ∃ k, k = pre.length := ⟨_, rfl⟩
    have hon : within D1 (fr + pre.length : Nat) = 0 := by
      by_cases hw : within D1 (fr + pre.length : Nat) = 0
      · exact hw
      · exfalso
        unfold Dk.read at hrd
        rw [if_pos hw] at hrd
        exact hw (by have := congrArg Prod.snd hrd; exact this)
    have ht : t = sect D1 (fr + pre.length) := by
      unfold Dk.read at hrd
      rw [if_neg (by rw [hon]; decide)] at hrd
      have := congrArg Prod.fst hrd
      simp only at this
      rw [← this]
      rfl
    have ht64 : t.length = 64 := by rw [ht]; exact sect_length st1.ok (by omega)
    have k5 := keepN_int en pre.length
    have k6 := keepN_le en pre.length
    have c1 := hI.en_.cell
    have c2 : W.cell? ⟨w.heap.size, 1, none⟩ = some (.int .i64 fr) := cell_of_row W w.heap.size 1 _ _ _ hI.area
    have c3 : W.cell? ⟨w.heap.size, 0, none⟩ = some (.pointer (some ⟨b, 0, none⟩)) := cell_of_row W w.heap.size 0 _ _ _ hI.area
    obtain ⟨tt, htt, hts⟩ : ∃ x : ByteArray, x = ⟨t.toArray⟩ ∧ x.size = 64 := ⟨_, rfl, by show t.toArray.size = 64; simp [ht64]⟩
    have hfi : ((fr + pre.length : Nat) : Int) - (fr : Int) = (pre.length : Int) := by omega
    have hpl : (pre.length : Int) < 4096 := by omega
    have hpl0 : (0 : Int) ≤ (pre.length : Int) := by omega
    obtain ⟨kn, hkn⟩ : ∃ kn, kn = keepN en pre.length := ⟨_, rfl⟩
    have hkeep : max 0 (min ((en : Int) - ((fr : Int) + (pre.length : Int) - (fr : Int)) * 64) 64) = (kn : Int) := by rw [hkn]; unfold keepN; omega
    have hk64 : kn ≤ 64 := by rw [hkn]; exact k6
    have HKN := Lib.hid hkn
    have hes : (tt.extract kn 64).size ≤ 9223372036854775807 := by rw [ByteArray.size_extract]; omega
    clear k5 k6 hkn
    have HI := Lib.hid hI
    have HT := Lib.hid ht
    have HTT := Lib.hid htt
    have HST := Lib.hid st4
    have HRD := Lib.hid hrd
    have HON := Lib.hid hon
    dsimp only
    rw [← htt]
    clear hd1 hrd ht htt st4 hon hI
    gi_wp2_with fail
    refine ⟨trivial, ?_⟩
    refine ((callsIn_wide.2 (trim_any _ _ (by first | exact hes | (simp only [hkeep, Int.toNat_natCast]; exact hes)))).inRound l).mono ?_
    rintro e1 w1 ⟨rfl, m, rfl⟩
    have hdrop : (tt.extract kn 64).data.toList = t.drop kn := by
      rw [HTT.out]
      simp
      rw [List.take_of_length_le (by rw [List.length_drop]; omega)]
    rw [hdrop]
    have hsucc : to_ - fr - pre.length = (to_ - fr - (pre.length + 1)) + 1 := by omega
    by_cases hc0 : clean0 en pre.length t = true
    · have htz : Lib.trimB (t.drop kn) 0 = [] := (trim_zero _).2 (by rw [HKN.out]; exact (clean0_iff _ _ _).1 hc0)
      rw [htz]
      have hgo : cleanGo en fr (to_ - fr - (pre.length + 1)) (pre.length + 1) D1 wr = R := by
        have h9 := HST.out
        rw [hsucc] at h9
        unfold cleanGo at h9
        rw [HRD.out] at h9
        simp only [ne_eq, not_true_eq_false, if_false, hc0, if_true] at h9
        exact h9
      have HGO := Lib.hid hgo
      have hI2 : CleanAt w b g bm fr to_ en D.olds.length R (pre ++ [(fr + pre.length, t)]) (W.drewN m) :=
        ⟨HI.out.area, HI.out.area2, HI.out.en_, HI.out.err, ⟨D1, wr, st1.drewN m, st2, st3, by rw [List.length_append]; exact HGO.out⟩, HI.out.kp.trans (kp_drewN _ _ _)⟩
      have HI2 := Lib.hid hI2
      clear hgo hI2 htz hdrop
      gi_wp2
      exact ⟨⟨by simp, fun k o _ hk _ => hk⟩, ⟨rfl, fun D2 h2 n2 => ⟨D2, h2.drewN m, n2⟩⟩, HI2.out⟩
    · have htz : ¬ Lib.trimB (t.drop kn) 0 = [] := fun h => hc0 ((clean0_iff _ _ _).2 (by rw [← HKN.out]; exact (trim_zero _).1 h))
      obtain ⟨r, hr⟩ : ∃ r : ByteArray, r = ⟨(Lib.trimB (t.drop kn) 0).toArray⟩ := ⟨_, rfl⟩
      have hr1 : ¬ r.toList = [] := by
        rw [ByteArray.toList_eq, hr]
        simpa using htz
      have hr2 : r.toList.isEmpty = false := by simpa using hr1
      rw [← hr]
      obtain ⟨u, hu⟩ : ∃ u : ByteArray, u = tt.extract 0 kn := ⟨_, rfl⟩
      have hul : u.data.toList = t.take kn := by rw [hu, HTT.out]; simp
      have hus : u.size ≤ 64 := by rw [hu, ByteArray.size_extract]; omega
      have hwr := write_any (st1.drewN m).drew ((fr + pre.length : Nat) : Int) u (by omega)
      rw [hul] at hwr
      obtain ⟨⟨D3, er⟩, hD3⟩ : ∃ x, Dk.write D1 ((fr + pre.length : Nat) : Int) (t.take kn) = x := ⟨_, rfl⟩
      have hl3 : D3.olds.length = D.olds.length := by
        have := write_len D1 ((fr + pre.length : Nat) : Int) (t.take kn)
        rw [hD3] at this
        exact this.trans st2
      rw [hD3, hu, Int.natCast_add] at hwr
      have HW := Lib.hid hwr
      have HD3 := Lib.hid hD3
      clear hwr hD3 hr htz hdrop hul
      have hkp0 : (0 : Int) ≤ (kn : Int) := by omega
      have hkp1 : (kn : Int) ≤ 64 := by omega
      gi_wp2_with fail
      gi_region_with (refine ⟨trivial, ?_⟩; gi_at_call 52; refine ((callsIn_wide.2 HW.out).inRound l).mono ?_; rintro e2 w2 ⟨rfl, h2, k2⟩)
      all_goals
        have hnf : ∀ k, w.heap.size ≤ k → ¬ Foot b g bm k := fun k hk hf => by have := hlow k hf; omega
        have hWs : w.heap.size + 5 ≤ W.heap.size := (Array.getElem?_eq_some_iff.1 HI.out.area2).1
        have old : ∀ (k : Nat) (o : Obj), w.heap.size ≤ k → W.heap[k]? = some o → w2.heap[k]? = some o := fun k o hk ho => (k2.block k (show k < W.heap.size from (Array.getElem?_eq_some_iff.1 ho).1) (hnf k hk)).trans ho
        have b3 : Boxed w2 (w.heap.size + 3) 4 (.bool wr) := old _ _ (by omega) st3
        have b2 : Boxed w2 (w.heap.size + 2) 28 (.int .i64 0) := old _ _ (by omega) HI.out.err
        have kp2 : Kp (Foot b g bm) w w2 := (HI.out.kp.trans (kp_drewN _ _ m)).drew.trans k2
        have kf : KeepsFrom W0.heap.size W w2 := ⟨by have := k2.size; exact this, fun k o hB hk _ => old k o (by omega) hk⟩
        have q3 := b3.cell
        have q2 := b2.cell
        have r3 := b3.frozen
        have r2 := b2.frozen
        have KF := Lib.hid kf
        have OLD := Lib.hid old
        have KP2 := Lib.hid kp2
        have B2 := Lib.hid b2
        have B3 := Lib.hid b3
        have H2 := Lib.hid h2
        by_cases he : er = 0
        · subst he
          have hgo : cleanGo en fr (to_ - fr - (pre.length + 1)) (pre.length + 1) D3 true = R := by
            have h9 := HST.out
            rw [hsucc] at h9
            unfold cleanGo at h9
            rw [HRD.out] at h9
            simp only [ne_eq, not_true_eq_false, if_false, hc0, Bool.false_eq_true] at h9
            rw [← HKN.out, HD3.out] at h9
            simpa using h9
          have HGO := Lib.hid hgo
          clear k2 old b3 b2 kp2 kf h2 hgo
          gi_wp2
          refine ⟨KF.out.trans ((KeepsOthers.setCell _ _ _).from _), ⟨?_, fun D4 h4 n4 => ?_⟩, ?_⟩
          · rw [Below.heap_setCell _ _ _ _ (by show w.heap.size + 4 ≠ w.heap.size + 3; omega)]
            exact (OLD.out _ _ (by omega) HI.out.area2).trans HI.out.area2.symm
          · exact ⟨D3, H2.out.setCell (p := ⟨w.heap.size + 3, 0, none⟩) (hnf _ (by show w.heap.size ≤ w.heap.size + 3; omega)) _, by rw [hl3]⟩
          · refine ⟨?_, ?_, ?_, ?_, ⟨D3, true, H2.out.setCell (p := ⟨w.heap.size + 3, 0, none⟩) (hnf _ (by show w.heap.size ≤ w.heap.size + 3; omega)) _, hl3, B3.out.set _, by rw [List.length_append]; exact HGO.out⟩, KP2.out.setNew (p := ⟨w.heap.size + 3, 0, none⟩) (by show w.heap.size ≤ w.heap.size + 3; omega) _⟩
            · exact (Below.heap_setCell _ _ _ _ (by show w.heap.size ≠ w.heap.size + 3; omega)).trans (OLD.out _ _ (Nat.le_refl _) HI.out.area)
            · exact (Below.heap_setCell _ _ _ _ (by show w.heap.size + 4 ≠ w.heap.size + 3; omega)).trans (OLD.out _ _ (by omega) HI.out.area2)
            · exact (Below.heap_setCell _ _ _ _ (by show w.heap.size + 1 ≠ w.heap.size + 3; omega)).trans (OLD.out _ _ (by omega) HI.out.en_)
            · exact (Below.heap_setCell _ _ _ _ (by show w.heap.size + 2 ≠ w.heap.size + 3; omega)).trans B2.out
        · have hgo : (D3, er) = R := by
            have h9 := HST.out
            rw [hsucc] at h9
            unfold cleanGo at h9
            rw [HRD.out] at h9
            simp only [ne_eq, not_true_eq_false, if_false, hc0, Bool.false_eq_true] at h9
            rw [← HKN.out, HD3.out] at h9
            simpa [he] using h9
          have hte : (er != 0) = true := by rw [bne_iff_ne]; exact he
          have HGO := Lib.hid hgo
          clear k2 old b3 b2 kp2 kf h2 hgo he
          gi_wp2
          refine ⟨KF.out.trans ((KeepsOthers.setCell _ _ _).from _), rfl, ⟨er, B2.out.set _, by rw [← HGO.out]⟩, ?_, KP2.out.setNew (p := ⟨w.heap.size + 2, 0, none⟩) (by show w.heap.size ≤ w.heap.size + 2; omega) _⟩
          rw [← HGO.out]
          exact H2.out.setCell (p := ⟨w.heap.size + 2, 0, none⟩) (hnf _ (by show w.heap.size ≤ w.heap.size + 2; omega)) _
  case done =>
    rintro D2 xs W hD ⟨hri, D3, hd3, hend⟩ hI hK
    obtain ⟨D', wr, st1, st2, st3, st4⟩ := hI.st
    obtain rfl := hd3.uniq st1
    have hfin : (if wr then sync D3 else (D3, 0)) = R := by
      rcases hend with h | ⟨h1, h2⟩
      · rw [show to_ - fr - xs.length = 0 from by omega] at st4; exact st4
      · obtain ⟨m, hm⟩ : ∃ m, to_ - fr - xs.length = m + 1 := ⟨to_ - fr - xs.length - 1, by omega⟩
        rw [hm] at st4
        unfold cleanGo at st4
        rw [if_pos h2] at st4
        exact st4
    have HFIN := Lib.hid hfin
    have HI := Lib.hid hI
    have HD := Lib.hid hd3
    have HK := Lib.hid hK
    have hnf : ∀ k, w.heap.size ≤ k → ¬ Foot b g bm k := fun k hk hf => by have := hlow k hf; omega
    have HNF := Lib.hid hnf
    have c1 := st3.cell
    have c2 : W.cell? ⟨w.heap.size, 0, none⟩ = some (.pointer (some ⟨b, 0, none⟩)) := cell_of_row W w.heap.size 0 _ _ _ hI.area
    have c3 := hI.err.cell
    have f3 := hI.err.frozen
    clear hri hend st1 st2 st4 hfin hI hd3 hK hnf
    cases wr with
    | false =>
      gi_wp2
      have hR : (D3, (0 : Int)) = R := HFIN.out
      have e1 : Boxed (W.setCell ⟨w.heap.size + 2, 0, none⟩ (.int .i64 0)) (w.heap.size + 2) 28 (.int .i64 0) := HI.out.err.set _
      have hK2 : (W.setCell ⟨w.heap.size + 2, 0, none⟩ (.int .i64 0)).heap[D2]? = some (.deferred (some [])) := (Below.heap_setCell _ _ _ _ (by show D2 ≠ w.heap.size + 2; omega)).trans HK.out
      have e2 := fin_cell (D2 := D2) e1 (by omega)
      refine ⟨by simp, .inl ⟨_, _, rfl, run_takeDeferred hK2, ?_⟩⟩
      refine ⟨.int .i64 R.2, ?_, rfl, ?_, ?_⟩
      · rw [← hR]; simp [results, Tryd.results50, go_sem, e2]
      · rw [← hR]; exact fin_disk (HD.out.setCell (p := ⟨w.heap.size + 2, 0, none⟩) (HNF.out _ (by show w.heap.size ≤ w.heap.size + 2; omega)) _) (HNF.out _ (by omega))
      · exact fin_kp (HI.out.kp.setNew (p := ⟨w.heap.size + 2, 0, none⟩) (by show w.heap.size ≤ w.heap.size + 2; omega) _) (by omega)
    | true =>
      have HS := Lib.hid (sync_any HD.out)
      gi_wp2_with fail
      refine ⟨trivial, ?_⟩
      refine (callsIn_wide.2 HS.out).mono ?_
      rintro e w2 ⟨rfl, h2, k2⟩
      have hR : sync D3 = R := HFIN.out
      have hK1 : w2.heap[D2]? = some (.deferred (some [])) := (k2.block _ (Array.getElem?_eq_some_iff.1 HK.out).1 (HNF.out _ (by omega))).trans HK.out
      have b2 : Boxed w2 (w.heap.size + 2) 28 (.int .i64 0) := (k2.block _ (Array.getElem?_eq_some_iff.1 HI.out.err).1 (HNF.out _ (by omega))).trans HI.out.err
      have q2 := b2.cell
      have r2 := b2.frozen
      have kp2 : Kp (Foot b g bm) w w2 := HI.out.kp.trans k2
      rw [hR] at h2 ⊢
      have H2 := Lib.hid h2
      have KP2 := Lib.hid kp2
      clear h2 kp2 k2 hR
      gi_wp2
      have e1 : Boxed (w2.setCell ⟨w.heap.size + 2, 0, none⟩ (.int .i64 R.2)) (w.heap.size + 2) 28 (.int .i64 R.2) := b2.set _
      have hK2 : (w2.setCell ⟨w.heap.size + 2, 0, none⟩ (.int .i64 R.2)).heap[D2]? = some (.deferred (some [])) := (Below.heap_setCell _ _ _ _ (by show D2 ≠ w.heap.size + 2; omega)).trans hK1
      have e2 := fin_cell (D2 := D2) e1 (by omega)
      refine ⟨by simp, .inl ⟨_, _, rfl, run_takeDeferred hK2, ?_⟩⟩
      refine ⟨.int .i64 R.2, ?_, rfl, ?_, ?_⟩
      · simp [results, Tryd.results50, go_sem, e2]
      · exact fin_disk (H2.out.setCell (p := ⟨w.heap.size + 2, 0, none⟩) (HNF.out _ (by show w.heap.size ≤ w.heap.size + 2; omega)) _) (HNF.out _ (by omega))
      · exact fin_kp (KP2.out.setNew (p := ⟨w.heap.size + 2, 0, none⟩) (by show w.heap.size ≤ w.heap.size + 2; omega) _) (by omega)
  case stop =>
    rintro D2 c pre W hD hpre ⟨rfl, hout⟩ hK
    obtain ⟨er, hb2, hR⟩ := hout.err
    have HO := Lib.hid hout
    have HK := Lib.hid hK
    have HB := Lib.hid hb2
    have hnf : ∀ k, w.heap.size ≤ k → ¬ Foot b g bm k := fun k hk hf => by have := hlow k hf; omega
    have HNF := Lib.hid hnf
    have HR := Lib.hid hR
    clear hout hK hb2 hpre hnf hR
    gi_wp2
    have e2 := fin_cell (D2 := D2) HB.out (by omega)
    refine ⟨by simp, .inl ⟨_, _, rfl, run_takeDeferred HK.out, ?_⟩⟩
    refine ⟨.int .i64 R.2, ?_, rfl, ?_, ?_⟩
    · rw [HR.out]; simp [results, Tryd.results50, go_sem, e2]
    · exact fin_disk HO.out.st (HNF.out _ (by omega))
    · exact fin_kp HO.out.kp (by omega)

theorem clean_any (h : IsDisk w b g bm D) (fr to_ en : Nat) (hft : fr ≤ to_) (hto : to_ ≤ D.olds.length) (hen : en ≤ 1073741824) :
    Calls Tryd.prog 50 #[.agg #[.pointer (some ⟨b, 0, none⟩), .int .i64 fr, .int .i64 to_], .int .i64 en] w fun e w' => e = .returned (.int .i64 (clean D fr to_ en).2) ∧ IsDisk w' b g bm (clean D fr to_ en).1 ∧ Kp (Foot b g bm) w w' :=
  clean_aux h fr to_ en hft hto hen _ rfl
end Go.Proofs.YtoafebndlldclaaDoor.Wl
