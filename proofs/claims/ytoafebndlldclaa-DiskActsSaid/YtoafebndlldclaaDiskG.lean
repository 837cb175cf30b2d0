/- A disk that the caller itself made: each call's contract with what the caller keeps. -/
import Derived.Test.YtoafebndlldclaaDiskF
import Derived.Test.YtoafebndlldclaaSort
namespace Go.Proofs.Ytoafebndlldclaa.Dk
open Go Go.RowKit Go.ChangeMaps Go.MapKept

/-- in w, behind W, there is a disk of the call's own -/
structure At (W w : World) (b g bm : Nat) (D : DS) : Prop where
  disk : IsDisk w b g bm D
  bel : Below W.heap.size W w
  hb : W.heap.size ≤ b
  hg : W.heap.size ≤ g
  hm : W.heap.size ≤ bm

section
variable {W w w' : World} {b g bm : Nat} {D D' : DS}
theorem At.foot (h : At W w b g bm D) {k : Nat} (hk : Foot b g bm k) : W.heap.size ≤ k := by
  rcases hk with rfl | rfl | rfl
  · exact h.hb
  · exact h.hg
  · exact h.hm
theorem At.step (h : At W w b g bm D) (hi : IsDisk w' b g bm D') (hk : Kp (Foot b g bm) w w') : At W w' b g bm D' :=
  ⟨hi, h.bel.trans (hk.below (fun _ hk => h.foot hk) h.bel.size), h.hb, h.hg, h.hm⟩
theorem At.alloc (h : At W w b g bm D) (o : Obj) : At W (w.alloc o) b g bm D := h.step (h.disk.alloc o) ((Kp.refl _ w).alloc o)
theorem At.drew (h : At W w b g bm D) : At W w.drew b g bm D := h.step h.disk.drew (Kp.refl _ w).drew
theorem At.drewN (h : At W w b g bm D) (n : Nat) : At W (w.drewN n) b g bm D := h.step (h.disk.drewN n) (kp_drewN _ w n)
theorem At.below (h : At W w b g bm D) (k : Below w.heap.size w w') : At W w' b g bm D := h.step (h.disk.below k) (.of_below k)

theorem At.write (h : At W w b g bm D) (i : Int) (s : ByteArray) (hs : s.size ≤ 9223372036854775807) : Calls Try.prog 10 #[.pointer (some ⟨b, 0, none⟩), .int .i64 i, .string s] w fun e w' => e = .returned (.int .i64 (Dk.write D i s.data.toList).2) ∧ At W w' b g bm (Dk.write D i s.data.toList).1 ∧ Kp (Foot b g bm) w w' :=
  (write_any h.disk i s hs).mono fun _ _ ⟨he, hi, hk⟩ => ⟨he, h.step hi hk, hk⟩
theorem At.sync (h : At W w b g bm D) : Calls Try.prog 11 #[.pointer (some ⟨b, 0, none⟩)] w fun e w' => e = .returned (.int .i64 (Dk.sync D).2) ∧ At W w' b g bm (Dk.sync D).1 ∧ Kp (Foot b g bm) w w' :=
  (sync_any h.disk).mono fun _ _ ⟨he, hi, hk⟩ => ⟨he, h.step hi hk, hk⟩
theorem At.cut (h : At W w b g bm D) : Calls Try.prog 12 #[.pointer (some ⟨b, 0, none⟩)] w fun e w' => e = .returned (.tuple #[]) ∧ At W w' b g bm (Dk.cut D) ∧ Kp (Foot b g bm) w w' :=
  (cut_any h.disk).mono fun _ _ ⟨he, hi, hk⟩ => ⟨he, h.step hi hk, hk⟩
theorem At.setFuse (h : At W w b g bm D) (n : Int) (hn : n ≤ 9223372036854775807) : Calls Try.prog 16 #[.pointer (some ⟨b, 0, none⟩), .int .i64 n] w fun e w' => e = .returned (.tuple #[]) ∧ At W w' b g bm (Dk.setFuse D n) ∧ Kp (Foot b g bm) w w' :=
  (fuse_any h.disk n hn).mono fun _ _ ⟨he, hi, hk⟩ => ⟨he, h.step hi hk, hk⟩
theorem At.read (h : At W w b g bm D) (i : Int) : Calls Try.prog 14 #[.pointer (some ⟨b, 0, none⟩), .int .i64 i] w fun e w' => e = .returned (.tuple #[.string ⟨(Dk.read D i).1.toArray⟩, .int .i64 (Dk.read D i).2]) ∧ At W w' b g bm D ∧ Kp (Foot b g bm) w w' :=
  (read_any h.disk i).mono fun _ _ ⟨he, hk⟩ => ⟨he, h.below hk, .of_below hk⟩
theorem At.on (h : At W w b g bm D) (v : Value) (fates : List Int) (hv : FatesAt b g bm w v fates) : Calls Try.prog 13 #[.pointer (some ⟨b, 0, none⟩), v] w fun e w' => e = .returned (.int .i64 (Dk.on D fates).2) ∧ At W w' b g bm (Dk.on D fates).1 ∧ Kp (Foot b g bm) w w' :=
  (on_any sortsInts sortsNone h.disk v fates hv).mono fun _ _ ⟨he, hi, hk⟩ => ⟨he, h.step hi hk, hk⟩
theorem At.dirty (h : At W w b g bm D) : Calls Try.prog 15 #[.pointer (some ⟨b, 0, none⟩)] w fun e w' => ∃ v, e = .returned v ∧ w'.ownsRow w.heap.size 3 1 v (Dk.dirty D).length (ints (Dk.dirty D)) ∧ At W w' b g bm D ∧ Kp (Foot b g bm) w w' :=
  (dirty_any sortsInts sortsNone h.disk).mono fun _ _ ⟨v, he, ho, hk⟩ => ⟨v, he, ho, h.below hk, .of_below hk⟩
theorem At.up (h : At W w b g bm D) : Calls Try.prog 17 #[.pointer (some ⟨b, 0, none⟩)] w fun e w' => e = .returned (.bool (!D.off)) ∧ w = w' := up_any h.disk
theorem made (n : Nat) (h1 : 1 ≤ n) (h2 : n ≤ 4096) (W w : World) (hb : Below W.heap.size W w) : Calls Try.prog 9 #[.int .i64 n] w fun e w' => ∃ b g bm, e = .returned (.pointer (some ⟨b, 0, none⟩)) ∧ At W w' b g bm (new n) ∧ Below w.heap.size w w' ∧ w.heap.size ≤ b ∧ w.heap.size ≤ g ∧ w.heap.size ≤ bm :=
  (new_some n h1 h2 w).mono fun _ _ ⟨he, hi, hk⟩ => ⟨_, _, _, he, ⟨hi, hb.trans (hk.mono hb.size), by have := hb.size; omega, hb.size, by have := hb.size; omega⟩, hk, by omega, by omega, by omega⟩

/-- fates in a new block -/
theorem fates_one (h : At W w b g bm D) (f : Int) (h1 : -9223372036854775808 ≤ f ∧ f ≤ 9223372036854775807) : FatesAt b g bm (w.alloc (.cells #[.int .i64 f] 3)) (.slice (some ⟨w.heap.size, 0, none⟩) 1 1) [f] :=
  ⟨_, 1, rfl, by simp, by simp, fun x hx => by simp at hx; subst hx; exact h1, fun _ => ⟨w.heap.size, 0, rfl, by simp, fun hf => by have := h.disk.lt hf; omega, fun j x hj => by
    match j, hj with
    | 0, hj => simp at hj; subst hj; simp⟩⟩
theorem fates_nil (W : World) : FatesAt b g bm W (.slice none 0 0) [] := ⟨none, 0, rfl, by simp, by simp, by simp, fun h => absurd rfl h⟩
end

def ab : ByteArray := ⟨#[97, 98]⟩
def cd : ByteArray := ⟨#[99, 100]⟩
def sh1 : DS := (write (new 2) 0 [97, 98]).1
def sh2 : DS := (sync sh1).1
def sh3 : DS := (write sh2 0 [99, 100]).1
def sh4 : DS := cut sh3
def sh5 : DS := (on sh4 [3]).1
theorem sh_w1 : (write (new 2) 0 [97, 98]).2 = 0 := by decide
theorem sh_s1 : (sync sh1).2 = 0 := by decide
theorem sh_w2 : (write sh2 0 [99, 100]).2 = 0 := by decide
theorem sh_on : (on sh4 [3]).2 = 0 := by decide
theorem sh_rd : read sh5 0 = ([99, 98] ++ zeros 62, 0) := by decide

theorem sh_eq : (({ data := (99 :: 98 :: zeros 62).toArray } : ByteArray).extract 0 2).toList = [99, 98] := by decide +kernel

set_option maxRecDepth 100000 in
set_option maxHeartbeats 2000000 in
theorem shown_any (W : World) : Calls Try.prog 8 #[] W fun e w' => e = .returned (.bool true) ∧ Below W.heap.size W w' := by
  go_enter Try.func8, Try.ntmps8
  go_wp2_with fail
  refine (made 2 (by decide) (by decide) W W (Below.refl _ _)).mono ?_
  rintro e w1 ⟨b, g, bm, rfl, h1, _⟩
  have H1 := Lib.hid h1
  clear h1
  go_wp2_with fail
  have c1 := H1.out.write 0 ⟨#[97, 98]⟩ (by decide)
  rw [sh_w1] at c1
  refine c1.mono ?_
  rintro e w2 ⟨rfl, h2, _⟩
  have H2 : Hid (At W w2 b g bm sh1) := h2
  clear c1 h2
  go_wp2_with fail
  have c2 := H2.out.sync
  rw [sh_s1] at c2
  refine c2.mono ?_
  rintro e w3 ⟨rfl, h3, _⟩
  have H3 : Hid (At W w3 b g bm sh2) := h3
  clear c2 h3
  go_wp2_with fail
  have c3 := H3.out.write 0 ⟨#[99, 100]⟩ (by decide)
  rw [sh_w2] at c3
  refine c3.mono ?_
  rintro e w4 ⟨rfl, h4, _⟩
  have H4 : Hid (At W w4 b g bm sh3) := h4
  clear c3 h4
  go_wp2_with fail
  refine H4.out.cut.mono ?_
  rintro e w5 ⟨rfl, h5, _⟩
  have H5 : Hid (At W w5 b g bm sh4) := h5
  clear h5
  go_wp2_with fail
  have c5 := (H5.out.alloc (.cells #[.int .i64 3] 3)).on _ [3] (fates_one H5.out 3 (by decide))
  rw [sh_on] at c5
  refine c5.mono ?_
  rintro e w6 ⟨rfl, h6, _⟩
  have H6 : Hid (At W w6 b g bm sh5) := h6
  clear c5 h6
  go_wp2_with fail
  have c6 := H6.out.read 0
  rw [sh_rd] at c6
  refine c6.mono ?_
  rintro e w7 ⟨rfl, h7, _⟩
  have H7 := Lib.hid h7
  clear c6 h7
  go_wp2_with fail
  go_ret
  exact ⟨by show Ending.returned (.bool _) = _; rw [sh_eq]; rfl, H7.out.bel⟩
end Go.Proofs.Ytoafebndlldclaa.Dk
