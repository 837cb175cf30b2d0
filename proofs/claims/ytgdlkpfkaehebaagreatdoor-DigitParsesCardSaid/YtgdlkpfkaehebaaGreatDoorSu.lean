/- limb.sum: rows of limbs put together, each a limb further. -/
import Derived.Test.YtgdlkpfkaehebaaGreatDoorAd
import Derived.Test.YtgdlkpfkaehebaaGreatDoorBs
import Derived.Deep.RegionWith
set_option linter.unusedVariables false
namespace Go.Proofs.YtgdlkpfkaehebaaGreatDoor.Su
open Go Go.RowKit Go.Proofs.YtgdlkpfkaehebaaGreatDoorW.PrintWords Go.Proofs.YtgdlkpfkaehebaaGreatDoorW.PrintLast Go.Proofs.YtgdlkpfkaehebaaGreatDoorW.PrintMore
open Nt Lm Ad Bs Tk

/-- the two stores -/
theorem add1_close {w0 W W' : World} {lo bo bc g cap i s q cy : Nat} {xs : List Nat} (hbo : boxS W bo (.slice (some ⟨g, 0, none⟩) xs.length cap)) (hbc : boxU W bc (.int .u64 (cy : Int))) (hv : Nw W lo (.slice (some ⟨g, 0, none⟩) xs.length cap) xs)
    (hne : g ≠ bc) (hlo : lo = w0.heap.size) (hb : Below lo w0 W) (hg : lo ≤ g) (hbcl : lo ≤ bc) (hh : W'.heap = ((W.setCell ⟨g, i, none⟩ (.int .u64 (s : Int))).setCell ⟨bc, 0, none⟩ (.int .u64 (q : Int))).heap) (ho : W'.os = W.os) (ht : W'.tape = W.tape) (hp : W'.output = W.output) :
    boxS W' bo (.slice (some ⟨g, 0, none⟩) xs.length cap) ∧ boxU W' bc (.int .u64 (q : Int)) ∧ Nw W' lo (.slice (some ⟨g, 0, none⟩) xs.length cap) (xs.set i s) ∧ Below lo w0 W' ∧ W'.heap.size = W.heap.size ∧ (∀ k, k ≠ g → k ≠ bc → W'.heap[k]? = W.heap[k]?) := by
  obtain ⟨X, hX⟩ : ∃ X, X = (W.setCell ⟨g, i, none⟩ (.int .u64 (s : Int))).setCell ⟨bc, 0, none⟩ (.int .u64 (q : Int)) := ⟨_, rfl⟩
  have hbX : Below X.heap.size X W' := ⟨by rw [ho, hX]; rfl, by rw [ht, hX]; rfl, by rw [hp, hX]; rfl, by rw [hh, hX]; exact Nat.le_refl _, fun k _ => by rw [hh, hX]⟩
  have hgo : g ≠ bo := by
    rintro rfl
    obtain ⟨_, cells, hc⟩ := nw_block hv g rfl
    rw [show W.heap[g]? = _ from hbo] at hc
    simp at hc
  have hco : bc ≠ bo := by
    rintro rfl
    have h1 : W.heap[bc]? = _ := hbo
    rw [show W.heap[bc]? = _ from hbc] at h1
    simp at h1
  obtain ⟨p1, p2⟩ := hv.put i s
  have hXs : X.heap.size = W.heap.size := by rw [hX]; simp
  have hBX : Below lo w0 X := by rw [hX]; exact ((hb.setCell (p := ⟨g, i, none⟩) hg _)).setCell (p := ⟨bc, 0, none⟩) hbcl _
  have hlX : ∀ k, k ≠ g → k ≠ bc → X.heap[k]? = W.heap[k]? := fun k h1 h2 => by rw [hX, Below.heap_setCell _ _ _ _ (by exact h2), Below.heap_setCell _ _ _ _ (by exact h1)]
  rw [← hX] at hh
  refine ⟨?_, ?_, ?_, hBX.trans (hbX.mono (by rw [hlo]; exact hBX.size)), by rw [hh, hXs], fun k h1 h2 => by rw [hh]; exact hlX k h1 h2⟩
  · rw [boxS, hh, hlX bo (fun e => hgo e.symm) (fun e => hco e.symm)]; exact hbo
  · have h1 : (W.setCell ⟨g, i, none⟩ (.int .u64 (s : Int))).heap[bc]? = some (.cells #[.int .u64 (cy : Int)] 31 (0, 0)) := by rw [Below.heap_setCell _ _ _ _ (by show bc ≠ g; omega)]; exact hbc
    rw [boxU, hh, hX]
    exact blk_set h1 0 _
  · refine Nw.below ?_ hbX
    rw [hX]
    exact nw_grown p1 (grownBy_setCell' _ _ _) (fun k e e2 => by
      injection e with e
      have e3 : k = g := by simpa [Value.ownBlock] using e2
      omega)

set_option maxHeartbeats 8000000 in
set_option maxRecDepth 100000 in
/-- a limb is put to one of the sum -/
theorem add1_call (w0 W : World) (lo bo bc g cap i x cy : Nat) (xs : List Nat) (hbo : boxS W bo (.slice (some ⟨g, 0, none⟩) xs.length cap)) (hbc : boxU W bc (.int .u64 (cy : Int))) (hv : Nw W lo (.slice (some ⟨g, 0, none⟩) xs.length cap) xs) (hi : i < xs.length) (hlen : xs.length ≤ 1000000)
    (hne : g ≠ bc) (hlo : lo = w0.heap.size) (hx : x < B64) (hcy : cy ≤ 1) (hlim : Lim xs) (hb : Below lo w0 W) (hg : lo ≤ g) (hbcl : lo ≤ bc) :
    Calls Tryz.prog 80 #[.int .i64 (i : Int), .int .u64 (x : Int), .pointer (some ⟨bo, 0, none⟩), .pointer (some ⟨bc, 0, none⟩)] W fun e W' => e = .returned (.tuple #[]) ∧
      boxS W' bo (.slice (some ⟨g, 0, none⟩) xs.length cap) ∧ boxU W' bc (.int .u64 (((atL xs i + x + cy) / B64 : Nat) : Int)) ∧ Nw W' lo (.slice (some ⟨g, 0, none⟩) xs.length cap) (xs.set i ((atL xs i + x + cy) % B64)) ∧ Below lo w0 W' ∧ W'.heap.size = W.heap.size ∧ (∀ k, k ≠ g → k ≠ bc → W'.heap[k]? = W.heap[k]?) := by
  obtain ⟨o1, o2⟩ := hbo.cell
  have c1 : W.cell? ⟨bc, 0, none⟩ = some (.int .u64 (cy : Int)) := cell_of_row W bc 0 _ _ _ hbc
  have c2 : W.frozen? ⟨bc, 0, none⟩ = false := by simp [World.frozen?, show W.heap[bc]? = _ from hbc]
  obtain ⟨z1, z2⟩ := hv.cell i hi
  obtain ⟨xi, hxi⟩ : ∃ n, n = atL xs i := ⟨_, rfl⟩
  have hxl : xi < B64 := by rw [hxi]; exact atL_lt (by decide) hlim i
  rw [← hxi] at z1 ⊢
  have hadd := add64n xi x cy hxl hx hcy
  obtain ⟨s, hs⟩ : ∃ n, n = (xi + x + cy) % 18446744073709551616 := ⟨_, rfl⟩
  obtain ⟨q, hq⟩ : ∃ n, n = (xi + x + cy) / 18446744073709551616 := ⟨_, rfl⟩
  have es : (xi + x + cy) % B64 = s := hs.symm
  have eq : (xi + x + cy) / B64 = q := hq.symm
  rw [← hs, ← hq] at hadd
  rw [es, eq]
  have HLO := Lib.hid hlo
  have HBO := Lib.hid hbo
  have HBC := Lib.hid hbc
  have HV := Lib.hid hv
  have HB := Lib.hid hb
  clear hlo hs hq es eq hxi hxl hbo hbc hv hb hlim hcy hx
  go_enter Tryz.func80, Tryz.ntmps80
  go_wp2_with fail
  go_region_with (fail)
  all_goals
    go_end0
    exact ⟨rfl, add1_close HBO.out HBC.out HV.out hne HLO.out HB.out hg hbcl rfl rfl rfl rfl⟩
end Go.Proofs.YtgdlkpfkaehebaaGreatDoor.Su
