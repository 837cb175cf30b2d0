/- limb.Mul: the product of two rows of limbs. -/
import Derived.Test.YtgdlkpfkaehebaaGreatDoorSv
import Derived.Test.YtgdlkpfkaehebaaGreatDoorDstrs
import Derived.Shelf.Bits.Mul64
import Derived.Maps.AppendAt
import Derived.Deep.CutBlock
set_option linter.unusedVariables false
namespace Go.Proofs.YtgdlkpfkaehebaaGreatDoor.Mu
open Go Go.RowKit Go.Proofs.YtgdlkpfkaehebaaGreatDoorW.PrintWords Go.Proofs.YtgdlkpfkaehebaaGreatDoorW.PrintLast Go.Proofs.YtgdlkpfkaehebaaGreatDoorW.PrintMore
open Nt Lm Ad Bs Tk Sv

theorem infoR : (Tryz.prog.info? 23).map (fun i => (i.zero, i.size, i.bytes)) = some (some (.slice none 0 0), 1, 24) := by kernel_rfl
theorem mul64_call (x y : Nat) (hx : x < B64) (hy : y < B64) (w : World) :
    Calls Tryz.prog 59 #[.int .u64 (x : Int), .int .u64 (y : Int)] w fun e w' => e = .returned (.tuple #[.int .u64 ((x * y / B64 : Nat) : Int), .int .u64 ((x * y % B64 : Nat) : Int)]) ∧ w' = w :=
  Any.bits_Mul64 { lays105 with } x y hx hy w
/-- one limb of a row -/
theorem limb_step (x y cy : Nat) (hx : x < B64) (hy : y < B64) (hcy : cy < B64) : (x * y % B64 + cy + 0) % B64 = (x * y + cy) % B64 ∧ x * y / B64 + (x * y % B64 + cy + 0) / B64 = (x * y + cy) / B64 ∧ (x * y + cy) / B64 < B64 := by
  refine ⟨?_, ?_, carry_lt hx hy hcy⟩
  · rw [Nat.add_zero, Nat.add_mod, Nat.mod_mod, ← Nat.add_mod]
  · rw [Nat.add_zero]
    have h := Nat.div_add_mod (x * y) B64
    generalize x * y / B64 = q at *
    generalize x * y % B64 = r at *
    rw [← h, show B64 * q + r + cy = (r + cy) + B64 * q by omega, Nat.add_mul_div_left _ _ (by decide), Nat.add_comm]
/-- rows that were made -/
def RowsN (W : World) (lo : Nat) (vs : List Value) (ls : List (List Nat)) : Prop := vs.length = ls.length ∧ ∀ (j : Nat) (l : List Nat), ls[j]? = some l → ∃ v, vs[j]? = some v ∧ Nw W lo v l ∧ Lim l ∧ l.length ≤ 1000
theorem RowsN.step {W W' : World} {lo : Nat} {vs : List Value} {ls : List (List Nat)} (h : RowsN W lo vs ls) (hs : ∀ (k : Nat) (cells : Array Value), W.heap[k]? = some (Obj.cells cells 31 (0, 0)) → W'.heap[k]? = W.heap[k]?) : RowsN W' lo vs ls := by
  refine ⟨h.1, fun j l hj => ?_⟩
  obtain ⟨v, h1, h2, h3, h4⟩ := h.2 j l hj
  refine ⟨v, h1, ?_, h3, h4⟩
  refine Kd.R_mono (Kd.R_step (Kd.R_tight rfl h2) (fun k hk _ => ?_)) (fun _ _ => trivial)
  obtain ⟨_, cells, hc⟩ := nw_block h2 k hk.symm
  exact hs k cells hc
theorem RowsN.snoc {W W' : World} {lo : Nat} {vs : List Value} {al bl : List Nat} {k x : Nat} {v : Value} (h : RowsN W lo vs ((al.take k).map fun x => rowL x 0 bl)) (hs : ∀ (k : Nat) (cells : Array Value), W.heap[k]? = some (Obj.cells cells 31 (0, 0)) → W'.heap[k]? = W.heap[k]?)
    (hv : Nw W' lo v (rowL x 0 bl)) (hk : k < al.length) (hx : x = atL al k) (hlim : Lim (rowL x 0 bl)) (hlen : (rowL x 0 bl).length ≤ 1000) : RowsN W' lo (vs ++ [v]) ((al.take (k + 1)).map fun x => rowL x 0 bl) := by
  have h2 := h.step hs
  rw [take_at hk, ← hx, List.map_append]
  refine ⟨by simp [h.1], fun j l hj => ?_⟩
  rw [List.getElem?_append] at hj
  split at hj
  · rename_i hlt
    obtain ⟨u, h3, h4⟩ := h2.2 j l hj
    exact ⟨u, by rw [List.getElem?_append_left (by rw [h.1]; exact hlt)]; exact h3, h4⟩
  · rename_i hge
    have hj0 : j = ((al.take k).map fun x => rowL x 0 bl).length := by
      have := (List.getElem?_eq_some_iff.1 hj).1
      simp at this hge ⊢
      omega
    subst hj0
    simp at hj
    subst hj
    exact ⟨v, by rw [List.getElem?_append_right (by rw [h.1]; exact Nat.le_refl _), h.1]; simp, hv, hlim, hlen⟩
theorem RowsN.read {W : World} {lo : Nat} {vs : List Value} {ls : List (List Nat)} (h : RowsN W lo vs ls) : RowsR W vs ls := by
  refine ⟨h.1, fun j l hj => ?_⟩
  obtain ⟨v, h1, h2, h3, h4⟩ := h.2 j l hj
  obtain ⟨A, c, rfl, hc, hr⟩ := h2.open
  exact ⟨A, c, h1, hc, hr, h3, h4⟩
theorem rows_at {W : World} {lo n c : Nat} {A : Option Addr} {vs : List Value} (h : W.ownsRow lo 23 1 (.slice A n c) n vs) : RowsAt W A vs := by
  intro j v hj
  rcases h.2 with ⟨e, h0⟩ | ⟨g, cap, cur, e, _⟩
  · have h1 := h.1
    subst h0
    have := (List.getElem?_eq_some_iff.1 hj).1
    omega
  · injection e with e1 e2 e3
    subst e1
    exact ⟨_, rfl, h.cells (g := g) rfl j v hj⟩
/-- between two rows -/
structure MulAt (w : World) (b : List Nat) (al : List Nat) (k : Nat) (v : Value) (W : World) : Prop where
  rows : ∃ vs, W.ownsRow w.heap.size 23 1 v k vs ∧ RowsN W w.heap.size vs ((al.take k).map fun x => rowL x 0 b)
  below : Below w.heap.size w W

/-- while a row is made -/
structure RowAt (wq : World) (g cap : Nat) (b : List Nat) (x i cy : Nat) (pre : List Nat) (W : World) : Prop where
  row : Nw W wq.heap.size (.slice (some ⟨g, 0, none⟩) (b.length + 1) cap) (pre ++ List.replicate (b.length + 1 - i) 0)
  eq : rowL x 0 b = pre ++ rowL x cy (b.drop i)
  len : pre.length = i
  car : cy < B64
  lim : Lim pre
  below : Below wq.heap.size wq W

theorem row_next {wq : World} {g cap x i cy s q : Nat} {b pre : List Nat} {W W' : World} (h : RowAt wq g cap b x i cy pre W) (hi : i < b.length) (hs : s = (x * atL b i + cy) % B64) (hq : q = (x * atL b i + cy) / B64) (hq64 : q < B64)
    (hW : W' = W.setCell ⟨g, i, none⟩ (.int .u64 (s : Int))) (hg : wq.heap.size ≤ g) : RowAt wq g cap b x (i + 1) q (pre ++ [s]) W' := by
  have hd : b.drop i = atL b i :: b.drop (i + 1) := by
    rw [List.drop_eq_getElem_cons hi]
    congr 1
    unfold atL
    rw [List.getD_eq_getElem?_getD, List.getElem?_eq_getElem hi]; rfl
  refine ⟨?_, ?_, by simp [h.len], hq64, ?_, ?_⟩
  · have := (h.row.put i s).1
    rw [← hW] at this
    have e : (pre ++ List.replicate (b.length + 1 - i) 0).set i s = pre ++ [s] ++ List.replicate (b.length + 1 - (i + 1)) 0 := by
      rw [show b.length + 1 - i = (b.length - i) + 1 by omega, List.replicate_succ, List.set_append_right _ _ (by rw [h.len]; exact Nat.le_refl _), h.len, Nat.sub_self, List.set_cons_zero, List.append_assoc, show b.length + 1 - (i + 1) = b.length - i by omega]
      rfl
    rw [e] at this
    exact this
  · rw [h.eq, hd, rowL, List.append_assoc, hs, hq]; rfl
  · intro y hy
    rcases List.mem_append.1 hy with h1 | h1
    · exact h.lim y h1
    · have : y = s := by simpa using h1
      rw [this, hs]
      exact Nat.mod_lt _ (by decide)
  · rw [hW]; exact h.below.setCell hg _

set_option maxHeartbeats 8000000 in
set_option maxRecDepth 100000 in
theorem mul_call (A A1 : Option Addr) (c c1 : Nat) (a b : List Nat) (w : World) (hr : Rw w A a) (hc : a.length ≤ c) (hr1 : Rw w A1 b) (hc1 : b.length ≤ c1) (hla : Lim a) (hlb : Lim b) (hl : a.length ≤ 900) (hl1 : b.length ≤ 900) :
    Calls Tryz.prog 32 #[.slice A a.length c, .slice A1 b.length c1] w fun e w' => ∃ v, e = .returned v ∧ Nw w' w.heap.size v (ofN (val a * val b)) ∧ Below w.heap.size w w' := by
  have HTA := Lib.hid (fun w hr => trim_call A c a w hr hc (by omega))
  have HTB := Lib.hid (fun w hr => trim_call A1 c1 b w hr hc1 (by omega))
  have h1 := trimF_len a
  have h2 := trimF_len b
  have hra := hr.take h1
  have hrb := hr1.take h2
  rw [trim_take] at hra hrb
  have hva := val_trimF a
  have hvb := val_trimF b
  have hlia := trimF_lim hla
  have hlib := trimF_lim hlb
  obtain ⟨al, hal⟩ : ∃ l, l = trimF a := ⟨_, rfl⟩
  obtain ⟨bl, hbl⟩ : ∃ l, l = trimF b := ⟨_, rfl⟩
  rw [← hal] at HTA h1 hra hva hlia
  rw [← hbl] at HTB h2 hrb hvb hlib
  rw [← hva, ← hvb, ← sum_rows]
  obtain ⟨T, hT⟩ : ∃ t, t = sumV (al.map fun x => rowL x 0 bl) := ⟨_, rfl⟩
  rw [← hT]
  have HT := Lib.hid hT
  have HR := Lib.hid hr
  have HR1 := Lib.hid hr1
  have HRA := Lib.hid hra
  have HRB := Lib.hid hrb
  have HLA := Lib.hid hlia
  have HLB := Lib.hid hlib
  obtain ⟨i0, hi, hz0, hz1, hz2⟩ := info_parts infoR
  have HI := Lib.hid hi
  have HZ0 := Lib.hid hz0
  have HZ1 := Lib.hid hz1
  have HZ2 := Lib.hid hz2
  have hbw : IntKind.i64.wrap ((bl.length : Int) + 1) = (bl.length : Int) + 1 := IntWalk.i64_in _ (by omega)
  clear hT hr hr1 hra hrb hlia hlib hva hvb hla hlb hal hbl hi hz0 hz1 hz2
  go_enter Tryz.func32, Tryz.ntmps32
  go_wp2_with fail
  refine ((HTB.out) _ HR1.out).mono ?_
  rintro e w' ⟨rfl, rfl⟩
  go_wp2_with fail
  refine ((HTA.out) _ HR.out).mono ?_
  rintro e w' ⟨rfl, rfl⟩
  go_wp2_with fail
  go_loopw [5, 21] (fun v5 v21 wr => ∃ k : Nat, v21 = .int .i64 (k : Int) ∧ k ≤ al.length ∧ Hid (MulAt w bl al k v5 wr)) (fun _ v21 _ => al.length + 1 - (intOf v21).toNat)
  case atStart => exact ⟨0, rfl, by omega, Lib.hid ⟨⟨[], own_nil _ _ _ _, rfl, fun j l hj => by simp at hj⟩, Below.refl _ _⟩⟩
  case round =>
    obtain ⟨k, rfl, hk, hM⟩ := hrel
    obtain ⟨vs, hown, hrows⟩ := hM.out.rows
    obtain ⟨A5, c5, e5⟩ := own_slice hown
    subst e5
    by_cases hka : k < al.length
    · obtain ⟨ad, e, hxc⟩ := (HRA.out.below hM.out.below).at k hka
      cases e
      obtain ⟨x, hx⟩ : ∃ n, n = atL al k := ⟨_, rfl⟩
      rw [← hx] at hxc
      have hx64 : x < B64 := by rw [hx]; exact atL_lt (by decide) HLA.out k
      have HX := Lib.hid hx
      have HOWN := Lib.hid hown
      have HROWS := Lib.hid hrows
      have hkl : (k : Int) < (al.length : Int) := by omega
      have hbs := hM.out.below.size
      obtain ⟨wq, hq⟩ : ∃ x, x = wr := ⟨_, rfl⟩
      subst hq
      clear hx hown hrows
      go_wp2_with ((with_reducible refine gate_dst (N := 28) rfl ?_)
                   refine make_n (w0 := wq) wq.heap.size rfl rfl (.tmp 27) (.tmp 27) rfl (bl.length + 1) (by first | rfl | (simp [hbw]; done)) (by first | rfl | (simp [hbw]; done)) (by omega) (Below.refl _ _) (Nat.le_refl _) ?_
                   intro v1 w1 hv1 hb1 hg1 hnew1
                   obtain ⟨g, cap, rfl, hg2, hg3⟩ := hv1.form (by simp)
                   rw [List.length_replicate] at *
                   have HV1 := Lib.hid hv1
                   have HB1 := Lib.hid hb1
                   clear hv1 hb1 hg1 hnew1)
      have hra0 : RowAt wq g cap bl x 0 0 [] w1 := ⟨by rw [List.nil_append]; exact HV1.out, by simp, rfl, by decide, fun y hy => by simp at hy, HB1.out⟩
      have HRA0 := Lib.hid hra0
      clear hra0
      go_loopw [9, 31] (fun v9 v31 wx => ∃ (i cy : Nat) (pre : List Nat), v9 = .int .u64 (cy : Int) ∧ v31 = .int .i64 (i : Int) ∧ i ≤ bl.length ∧ Hid (RowAt wq g cap bl x i cy pre wx)) (fun _ v31 _ => bl.length + 1 - (intOf v31).toNat)
      case atStart => exact ⟨0, 0, [], rfl, rfl, by omega, HRA0⟩
      case round =>
        obtain ⟨i, cy, pre, rfl, rfl, hi, hA⟩ := hrel
        have hcy := hA.out.car
        have hpl := hA.out.len
        by_cases hib : i < bl.length
        · obtain ⟨ad2, e, hyc⟩ := (HRB.out.below (hM.out.below.trans (hA.out.below.mono hbs))).at i hib
          cases e
          obtain ⟨y, hy⟩ : ∃ n, n = atL bl i := ⟨_, rfl⟩
          rw [← hy] at hyc
          have hy64 : y < B64 := by rw [hy]; exact atL_lt (by decide) HLB.out i
          obtain ⟨l1, l2, l3⟩ := limb_step x y cy hx64 hy64 hcy
          have HML := Lib.hid (mul64_call x y hx64 hy64)
          obtain ⟨hi', hhi⟩ : ∃ n, n = x * y / B64 := ⟨_, rfl⟩
          obtain ⟨lo', hlo⟩ : ∃ n, n = x * y % B64 := ⟨_, rfl⟩
          rw [← hhi, ← hlo] at HML
          rw [← hlo] at l1 l2
          rw [← hhi] at l2
          have hlo64 : lo' < B64 := by rw [hlo]; exact Nat.mod_lt _ (by decide)
          have hadd := add64n lo' cy 0 hlo64 hcy (by decide)
          obtain ⟨s, hs⟩ : ∃ n, n = (lo' + cy + 0) % B64 := ⟨_, rfl⟩
          obtain ⟨up, hup⟩ : ∃ n, n = (lo' + cy + 0) / B64 := ⟨_, rfl⟩
          obtain ⟨q, hq⟩ : ∃ n, n = (x * y + cy) / B64 := ⟨_, rfl⟩
          rw [← hs, ← hup, show ((0 : Nat) : Int) = 0 from rfl] at hadd
          rw [← hs] at l1
          rw [← hup, ← hq] at l2
          rw [← hq] at l3
          have hqw : IntKind.u64.wrap ((hi' : Int) + (up : Int)) = (q : Int) := by
            rw [← Int.natCast_add, l2, IntWalk.u64_in _ ⟨by omega, by simp only [B64] at l3; omega⟩]
          obtain ⟨z1, z2⟩ := hA.out.row.cell i (by omega)
          obtain ⟨zv, hzv⟩ : ∃ n, n = atL (pre ++ List.replicate (bl.length + 1 - i) 0) i := ⟨_, rfl⟩
          rw [← hzv] at z1
          have HS := Lib.hid l1
          have HQ := Lib.hid hq
          have HY := Lib.hid hy
          have hibb : (i : Int) < (bl.length : Int) := by omega
          have hibn : i < bl.length + 1 := by omega
          have HPL := Lib.hid hpl
          clear hzv hs hup hhi hlo l1 l2 hy hq hpl hlo64
          go_wp2_with fail
          refine (HML.out _).mono ?_
          rintro e w' ⟨rfl, rfl⟩
          go_wp2_with fail
          go_roundw
          case rel => exact ⟨i + 1, q, pre ++ [s], rfl, by go_num, by omega, Lib.hid (row_next hA.out hib (by rw [HS.out, ← HY.out]) (by rw [HQ.out, ← HY.out]) l3 rfl hg2)⟩
          case measure => simp [intOf]; omega
        · have hie : i = bl.length := by omega
          have hibb : ¬ (i : Int) < (bl.length : Int) := by omega
          obtain ⟨z1, z2⟩ := hA.out.row.cell bl.length (by omega)
          obtain ⟨zv, hzv⟩ : ∃ n, n = atL (pre ++ List.replicate (bl.length + 1 - i) 0) bl.length := ⟨_, rfl⟩
          rw [← hzv] at z1
          have HIE := Lib.hid hie
          clear hzv hie hpl
          go_upto_region 16 with fail
          obtain ⟨W2, hW2⟩ : ∃ X, X = wr.setCell ⟨g, bl.length, none⟩ (.int .u64 (cy : Int)) := ⟨_, rfl⟩
          rw [← hW2]
          have hbW : Below wq.heap.size wq W2 := by rw [hW2]; exact hA.out.below.setCell hg2 _
          have hnewrow : Nw W2 wq.heap.size (.slice (some ⟨g, 0, none⟩) (bl.length + 1) cap) (rowL x 0 bl) := by
            have := (hA.out.row.put bl.length cy).1
            rw [← hW2] at this
            have e : (pre ++ List.replicate (bl.length + 1 - i) 0).set bl.length cy = rowL x 0 bl := by
              have hl := hA.out.len
              rw [HIE.out] at hl ⊢
              rw [List.set_append_right _ _ (by omega), hl, Nat.sub_self, show bl.length + 1 - bl.length = 1 by omega, hA.out.eq, HIE.out, List.drop_length]
              rfl
            rw [e] at this
            exact this
          have hown2 := (pw_own_below HOWN.out hbW).alloc (.cells #[.slice (some ⟨g, 0, none⟩) (bl.length + 1) cap] 23)
          have HO2 := Lib.hid hown2
          have hrows2 : RowsN W2 w.heap.size (vs ++ [.slice (some ⟨g, 0, none⟩) (bl.length + 1) cap]) ((al.take (k + 1)).map fun x => rowL x 0 bl) :=
            HROWS.out.snoc (fun q cells hq => hbW.block q (Array.getElem?_eq_some_iff.1 hq).1) (hnewrow.lower hbs) hka HX.out (row_lim hx64 _ _ HLB.out (by decide)) (by rw [row_len]; omega)
          have HRW2 := Lib.hid hrows2
          have hbW0 := hM.out.below.trans (hbW.mono hbs)
          have HBW0 := Lib.hid hbW0
          have hszW := hbW0.size
          clear hW2 hbW hnewrow hown2 hrows2 hbW0 z1 z2
          go_wp2_with (at_builtin; refine wpList_append_own_at _ rfl _ _ 88 rfl w.heap.size 23 i0 (.slice none 0 0) 1 24 Tryz.underlying88 HI.out HZ0.out HZ1.out HZ2.out rfl (by decide) (.slice A5 k c5) k vs rfl HO2.out ⟨W2.heap.size, 0, none⟩ 1 1 [.slice (some ⟨g, 0, none⟩) (bl.length + 1) cap] rfl rfl (cell_one_new _ _ _) (by simp [Value.oneCell']) (by unfold maxLen; omega) (by omega) (by simp; omega) ?_; intro v' w1 hown' hgrow hnil hat; have HO5 := Lib.hid hown'; have HG5 := Lib.hid hgrow; clear hown' hgrow hnil hat)
          have hnext : MulAt w bl al (k + 1) v' w1 := by
            refine ⟨⟨_, HO5.out, (HRW2.out.step (fun q cells hq => (below_alloc (Below.refl W2.heap.size W2) _).block q (Array.getElem?_eq_some_iff.1 hq).1)).step (fun q cells hq => HG5.out.block q (Array.getElem?_eq_some_iff.1 hq).1 (fun e => ?_))⟩, (HBW0.out.alloc hszW _).grown HG5.out (by simp; omega) (fun q e => own_base HO2.out q e)⟩
            obtain ⟨cells', hc'⟩ := own_typed HO2.out q e.symm
            rw [hc'] at hq
            simp at hq
          have HNEXT := Lib.hid hnext
          clear hnext
          go_wp2_with fail
          go_roundw
          case rel => exact ⟨k + 1, by go_num, by omega, HNEXT⟩
          case measure => simp [intOf]; omega
    · have hke : k = al.length := by omega
      have hkl : ¬ (k : Int) < (al.length : Int) := by omega
      subst hke
      rw [List.take_length] at hrows
      have hsc := sum_call A5 c5 vs (al.map fun x => rowL x 0 bl) wr (rows_at hown) hrows.read (by rw [List.length_map]; omega)
      rw [List.length_map, ← HT.out] at hsc
      have HSC := Lib.hid hsc
      have HBM := Lib.hid hM.out.below
      clear hown hrows hsc
      go_wp2_with (go_at_call 60; refine (HSC.out).mono ?_; rintro e w' ⟨v, rfl, hv, hb⟩)
      go_ret
      exact ⟨_, rfl, hv.lower HBM.out.size, HBM.out.trans (hb.mono HBM.out.size)⟩
end Go.Proofs.YtgdlkpfkaehebaaGreatDoor.Mu
