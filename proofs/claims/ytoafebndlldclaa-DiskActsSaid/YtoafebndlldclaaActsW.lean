/- The call of the law DiskActs is proved: both disks run by one spec. -/
import Derived.Test.YtoafebndlldclaaRefE
import Derived.Test.YtoafebndlldclaaRefF2
import Derived.Test.YtoafebndlldclaaLastP
import Derived.Test.YtoafebndlldclaaRd
import Derived.Deep.RegionHeld3
import Derived.Deep.CutBlock
namespace Go.Proofs.Ytoafebndlldclaa.Dk
open Go Go.RowKit Go.ChangeMaps Go.MapKept

/-- both disks, side by side -/
structure Two (W w : World) (b g bm : Nat) (B : RB) (D E : DS) : Prop where
  at_ : At W w b g bm D
  ref : IsRef w B E
  hf : ∀ k, FootR B k → W.heap.size ≤ k
  dis : ∀ k, FootR B k → ¬ Foot b g bm k

section
variable {W w w' : World} {b g bm : Nat} {B : RB} {D E D' E' : DS}
theorem Two.d (h : Two W w b g bm B D E) (ha : At W w' b g bm D') (hk : Kp (Foot b g bm) w w') : Two W w' b g bm B D' E := ⟨ha, h.ref.kept hk h.dis, h.hf, h.dis⟩
theorem Two.r (h : Two W w b g bm B D E) (hi : IsRef w' B E') (hk : Kp (FootR B) w w') : Two W w' b g bm B D E' :=
  ⟨⟨h.at_.disk.kept hk (fun k hk hr => h.dis k hr hk), h.at_.bel.trans (hk.below (fun _ hk => h.hf _ hk) h.at_.bel.size), h.at_.hb, h.at_.hg, h.at_.hm⟩, hi, h.hf, h.dis⟩
theorem Two.below (h : Two W w b g bm B D E) (k : Below w.heap.size w w') : Two W w' b g bm B D E := h.d (h.at_.below k) (.of_below k)
theorem Two.wr (h : Two W w b g bm B D E) (i : Int) (s : ByteArray) (hs : s.size ≤ 9223372036854775807) : Calls Try.prog 10 #[.pointer (some ⟨b, 0, none⟩), .int .i64 i, .string s] w fun e w' => e = .returned (.int .i64 (Dk.write D i s.data.toList).2) ∧ Two W w' b g bm B (Dk.write D i s.data.toList).1 E ∧ Kp (Foot b g bm) w w' :=
  (h.at_.write i s hs).mono fun _ _ ⟨he, hi, hk⟩ => ⟨he, h.d hi hk, hk⟩
theorem Two.wrR (h : Two W w b g bm B D E) (i : Int) (s : ByteArray) (hs : s.size ≤ 9223372036854775807) : Calls Try.prog 20 #[.pointer (some ⟨B.b, 0, none⟩), .int .i64 i, .string s] w fun e w' => e = .returned (.int .i64 (Dk.write E i s.data.toList).2) ∧ Two W w' b g bm B D (Dk.write E i s.data.toList).1 ∧ Kp (FootR B) w w' :=
  (rwrite_any h.ref i s hs).mono fun _ _ ⟨he, hi, hk⟩ => ⟨he, h.r hi hk, hk⟩
theorem Two.sy (h : Two W w b g bm B D E) : Calls Try.prog 11 #[.pointer (some ⟨b, 0, none⟩)] w fun e w' => e = .returned (.int .i64 (Dk.sync D).2) ∧ Two W w' b g bm B (Dk.sync D).1 E ∧ Kp (Foot b g bm) w w' :=
  h.at_.sync.mono fun _ _ ⟨he, hi, hk⟩ => ⟨he, h.d hi hk, hk⟩
theorem Two.syR (h : Two W w b g bm B D E) : Calls Try.prog 22 #[.pointer (some ⟨B.b, 0, none⟩)] w fun e w' => e = .returned (.int .i64 (Dk.sync E).2) ∧ Two W w' b g bm B D (Dk.sync E).1 ∧ Kp (FootR B) w w' :=
  (rsync_any h.ref).mono fun _ _ ⟨he, hi, hk⟩ => ⟨he, h.r hi hk, hk⟩
theorem Two.fu (h : Two W w b g bm B D E) (n : Int) (hn : n ≤ 9223372036854775807) : Calls Try.prog 16 #[.pointer (some ⟨b, 0, none⟩), .int .i64 n] w fun e w' => e = .returned (.tuple #[]) ∧ Two W w' b g bm B (Dk.setFuse D n) E ∧ Kp (Foot b g bm) w w' :=
  (h.at_.setFuse n hn).mono fun _ _ ⟨he, hi, hk⟩ => ⟨he, h.d hi hk, hk⟩
theorem Two.fuR (h : Two W w b g bm B D E) (n : Int) (hn : n ≤ 9223372036854775807) : Calls Try.prog 23 #[.pointer (some ⟨B.b, 0, none⟩), .int .i64 n] w fun e w' => e = .returned (.tuple #[]) ∧ Two W w' b g bm B D (Dk.setFuse E n) ∧ Kp (FootR B) w w' :=
  (rfuse_any h.ref n hn).mono fun _ _ ⟨he, hi, hk⟩ => ⟨he, h.r hi hk, hk⟩
theorem Two.cu (h : Two W w b g bm B D E) : Calls Try.prog 12 #[.pointer (some ⟨b, 0, none⟩)] w fun e w' => e = .returned (.tuple #[]) ∧ Two W w' b g bm B (Dk.cut D) E ∧ Kp (Foot b g bm) w w' :=
  h.at_.cut.mono fun _ _ ⟨he, hi, hk⟩ => ⟨he, h.d hi hk, hk⟩
theorem Two.cuR (h : Two W w b g bm B D E) : Calls Try.prog 24 #[.pointer (some ⟨B.b, 0, none⟩)] w fun e w' => e = .returned (.tuple #[]) ∧ Two W w' b g bm B D (Dk.cut E) ∧ Kp (FootR B) w w' :=
  (rcut_any h.ref).mono fun _ _ ⟨he, hi, hk⟩ => ⟨he, h.r hi hk, hk⟩
theorem Two.rd (h : Two W w b g bm B D E) (i : Int) : Calls Try.prog 14 #[.pointer (some ⟨b, 0, none⟩), .int .i64 i] w fun e w' => e = .returned (.tuple #[.string ⟨(Dk.read D i).1.toArray⟩, .int .i64 (Dk.read D i).2]) ∧ Two W w' b g bm B D E ∧ Kp (Foot b g bm) w w' :=
  (h.at_.read i).mono fun _ _ ⟨he, hi, hk⟩ => ⟨he, h.d hi hk, hk⟩
theorem Two.rdR (h : Two W w b g bm B D E) (i : Int) : Calls Try.prog 21 #[.pointer (some ⟨B.b, 0, none⟩), .int .i64 i] w fun e w' => e = .returned (.tuple #[.string ⟨(Dk.read E i).1.toArray⟩, .int .i64 (Dk.read E i).2]) ∧ w = w' := rread_any h.ref i
theorem Two.on_ (h : Two W w b g bm B D E) (v : Value) (fates : List Int) (hv : FatesAt b g bm w v fates) : Calls Try.prog 13 #[.pointer (some ⟨b, 0, none⟩), v] w fun e w' => e = .returned (.int .i64 (Dk.on D fates).2) ∧ Two W w' b g bm B (Dk.on D fates).1 E ∧ Kp (Foot b g bm) w w' :=
  (h.at_.on v fates hv).mono fun _ _ ⟨he, hi, hk⟩ => ⟨he, h.d hi hk, hk⟩
theorem Two.onR (h : Two W w b g bm B D E) (v : Value) (fates : List Int) (hv : FatesR B w v fates) : Calls Try.prog 25 #[.pointer (some ⟨B.b, 0, none⟩), v] w fun e w' => e = .returned (.int .i64 (Dk.on E fates).2) ∧ Two W w' b g bm B D (Dk.on E fates).1 ∧ Kp (FootR B) w w' :=
  (ron_any h.ref v fates hv).mono fun _ _ ⟨he, hi, hk⟩ => ⟨he, h.r hi hk, hk⟩
theorem Two.di (h : Two W w b g bm B D E) : Calls Try.prog 15 #[.pointer (some ⟨b, 0, none⟩)] w fun e w' => ∃ v, e = .returned v ∧ w'.ownsRow w.heap.size 3 1 v (Dk.dirty D).length (ints (Dk.dirty D)) ∧ Two W w' b g bm B D E ∧ Kp (Foot b g bm) w w' :=
  h.at_.dirty.mono fun _ _ ⟨v, he, ho, hi, hk⟩ => ⟨v, he, ho, h.d hi hk, hk⟩
theorem Two.diR (h : Two W w b g bm B D E) : Calls Try.prog 27 #[.pointer (some ⟨B.b, 0, none⟩)] w fun e w' => ∃ v, e = .returned v ∧ w'.ownsRow w.heap.size 3 1 v (Dk.dirty E).length (ints (Dk.dirty E)) ∧ Below w.heap.size w w' := rdirty_any h.ref

theorem fatesD_of_row {v : Value} {l : List Int} (hr : Rd.RowOf W (Value.int .i64) v l) (hb : Below W.heap.size W w) (hf : ∀ k, Foot b g bm k → W.heap.size ≤ k) (hl : l.length ≤ 9223372036854775807) (hw : ∀ x ∈ l, -9223372036854775808 ≤ x ∧ x ≤ 9223372036854775807) : FatesAt b g bm w v l := by
  obtain ⟨a, cap, h1, h2, _, h4⟩ := hr
  refine ⟨a, cap, h1, h2, hl, hw, fun hne => ?_⟩
  obtain ⟨fb, off, k0, k1, k2⟩ := h4 hne
  exact ⟨fb, off, k0, Nat.lt_of_lt_of_le k1 hb.size, fun h => by have := hf _ h; omega, fun j x hj => (hb.cell (p := ⟨fb, off + j, none⟩) k1).trans (k2 j x hj)⟩
theorem fatesR_of_row {v : Value} {l : List Int} (hr : Rd.RowOf W (Value.int .i64) v l) (hb : Below W.heap.size W w) (hf : ∀ k, FootR B k → W.heap.size ≤ k) (hl : l.length ≤ 9223372036854775807) (hw : ∀ x ∈ l, -9223372036854775808 ≤ x ∧ x ≤ 9223372036854775807) : FatesR B w v l := by
  obtain ⟨a, cap, h1, h2, _, h4⟩ := hr
  refine ⟨a, cap, h1, hw, hl, fun hne => ?_⟩
  obtain ⟨fb, off, k0, k1, k2⟩ := h4 hne
  exact ⟨fb, off, k0, Nat.lt_of_lt_of_le k1 hb.size, fun h => by have := hf _ h; omega, fun j x hj => (hb.cell (p := ⟨fb, off + j, none⟩) k1).trans (k2 j x hj)⟩
end

abbrev ActTy : Rd.Ty := .fld (.int .i64) (.fld (.int .i64) (.fld .str (.fld (.sl (.int .i64)) .fin)))

/-- one act of the row -/
structure ActAt (W : World) (bb o : Nat) (k i : Int) (s : ByteArray) (fv : Value) (fs : List Int) : Prop where
  lt : bb < W.heap.size
  c0 : W.cell? ⟨bb, o, none⟩ = some (.int .i64 k)
  c1 : W.cell? ⟨bb, o + 1, none⟩ = some (.int .i64 i)
  c2 : W.cell? ⟨bb, o + 2, none⟩ = some (.string s)
  c3 : W.cell? ⟨bb, o + 3, none⟩ = some fv
  ki : -9223372036854775808 ≤ k ∧ k ≤ 9223372036854775807
  ii : -9223372036854775808 ≤ i ∧ i ≤ 9223372036854775807
  ss : s.size ≤ maxLen
  row : Rd.RowOf W (Value.int .i64) fv fs
  fi : ∀ x ∈ fs, -9223372036854775808 ≤ x ∧ x ≤ 9223372036854775807

theorem acts_at {W : World} {v : Value} {l : List ActTy.den} (R : Rd.Reads W (.sl ActTy) [v] l) : ∃ a cap, v = .slice a l.length cap ∧ ∀ (j : Nat), j < l.length → ∃ bb off k i s fv fs, a = some ⟨bb, off, none⟩ ∧ ActAt W bb (off + j * 4) k i s fv fs := by
  obtain ⟨a, cap, h1, h2, h3, h4⟩ := R
  refine ⟨a, cap, (List.cons.inj h1).1, fun j hj => ?_⟩
  obtain ⟨bb, off, k0, k1, k2⟩ := h4 (by rintro rfl; simp at hj)
  obtain ⟨cs, e1, e2, e3⟩ := k2 j _ (List.getElem?_eq_getElem hj)
  obtain ⟨⟨k, i, s, fs, u⟩, hx⟩ : ∃ x : ActTy.den, x = l[j] := ⟨_, rfl⟩
  rw [← hx] at e3
  obtain ⟨⟨f1, w1⟩, ⟨f2, w2⟩, ⟨f3, w3⟩, f4, _⟩ := e3
  match cs, e1 with
  | [x0, x1, x2, x3], _ =>
    simp only [Rd.Ty.size, List.take_succ_cons, List.take_zero, List.drop_succ_cons, List.drop_zero, List.cons.injEq, and_true] at f1 f2 f3 f4
    subst f1 f2 f3
    obtain ⟨r1, r2⟩ := Rd.row_ints f4
    refine ⟨bb, off, k, i, s, x3, fs, k0, k1, e2 0 _ rfl, e2 1 _ rfl, e2 2 _ rfl, e2 3 _ rfl, bounds_i64 w1, bounds_i64 w2, w3, r1, fun x hx => bounds_i64 (r2 x hx)⟩

set_option maxRecDepth 100000 in
set_option maxHeartbeats 1000000 in
theorem acts_far (n : Int) (a : Option Addr) (cap : Nat) (len : Nat) (W : World) (h : 150 < len ∨ (300 < n ∧ n ≤ 4096)) : Calls Try.prog 7 #[.int .i64 n, .slice a len cap] W fun e w' => e = .returned (.bool true) ∧ Below W.heap.size W w' := by
  by_cases h1 : 150 < len
  · have h2 : decide (150 < len) = true := decide_eq_true h1
    clear h
    go_enter Try.func7, Try.ntmps7
    go_wp2_with (go_at_call 8; refine (shown_any _).mono ?_; rintro e' w' ⟨rfl, hb⟩)
    go_ret
    exact ⟨rfl, hb⟩
  · have h2 : decide (150 < len) = false := decide_eq_false h1
    have h3 : 300 < n := by omega
    have h4 : n ≤ 4096 := by omega
    clear h
    go_enter Try.func7, Try.ntmps7
    go_wp2_with (go_at_call 8; refine (shown_any _).mono ?_; rintro e' w' ⟨rfl, hb⟩)
    go_ret
    exact ⟨rfl, hb⟩

set_option maxRecDepth 100000 in
set_option maxHeartbeats 1000000 in
theorem acts_out (n : Int) (a : Option Addr) (cap : Nat) (len : Nat) (W : World) (hl : len ≤ 150) (h : n < 1 ∨ 4096 < n) : Calls Try.prog 7 #[.int .i64 n, .slice a len cap] W fun e w' => e = .returned (.bool true) ∧ Below W.heap.size W w' := by
  have h2 : decide (150 < len) = false := decide_eq_false (by omega)
  have hN1 := Lib.hid (fun w => new_none n h w)
  have hN2 := Lib.hid (fun w => rnew_none n h w)
  by_cases h3 : 300 < n
  · have h4 : ¬ n ≤ 4096 := by omega
    clear h
    go_enter Try.func7, Try.ntmps7
    go_wp2_with (first
      | (go_at_call 8; refine (shown_any _).mono ?_; rintro e' w' ⟨rfl, hb⟩)
      | (go_at_call 9; refine (hN1.out _).mono ?_; rintro e' w2 ⟨rfl, rfl⟩)
      | (go_at_call 18; refine (hN2.out _).mono ?_; rintro e' w3 ⟨rfl, rfl⟩))
    go_ret
    exact ⟨rfl, hb⟩
  · clear h
    go_enter Try.func7, Try.ntmps7
    go_wp2_with (first
      | (go_at_call 8; refine (shown_any _).mono ?_; rintro e' w' ⟨rfl, hb⟩)
      | (go_at_call 9; refine (hN1.out _).mono ?_; rintro e' w2 ⟨rfl, rfl⟩)
      | (go_at_call 18; refine (hN2.out _).mono ?_; rintro e' w3 ⟨rfl, rfl⟩))
    go_ret
    exact ⟨rfl, hb⟩

theorem write_len (D : DS) (i : Int) (s : Bs) : (write D i s).1.olds.length = D.olds.length := by
  unfold write
  split
  · rfl
  · split
    · rfl
    · unfold burn
      split <;> rfl
theorem sync_len {D : DS} (h : D.Ok) : (sync D).1.olds.length = D.olds.length := by
  unfold sync
  split
  · rfl
  · unfold burn
    split
    · rfl
    · simp [settle, h.len]
theorem on_len (D : DS) (fs : List Int) : (on D fs).1.olds.length = D.olds.length := by
  unfold on
  split
  · simp [onL_length]
  · rfl
theorem below_drewN (w : World) (n : Nat) : Below w.heap.size w (w.drewN n) := ⟨rfl, rfl, rfl, Nat.le_refl _, fun _ _ => rfl⟩

def Meet (W : World) (b g bm : Nat) (B : RB) (n : Nat) (s9 : Value) (wc : World) : Prop := s9 = .bool true ∧ ∃ D2 : DS, D2.olds.length = n ∧ Two W wc b g bm B D2 D2
def ActsInv (W : World) (b g bm : Nat) (B : RB) (n len : Nat) (i : Value) (wr : World) : Prop := ∃ (j : Nat) (D : DS), i = .int .i64 j ∧ j ≤ len ∧ D.olds.length = n ∧ Two W wr b g bm B D D

set_option maxRecDepth 100000 in
set_option maxHeartbeats 8000000 in
theorem acts_near (n : Nat) (v : Value) (l : List ActTy.den) (W : World) (R : Rd.Reads W (.sl ActTy) [v] l) (hl : l.length ≤ 150) (h1 : 1 ≤ n) (h3 : n ≤ 300) : Calls Try.prog 7 #[.int .i64 n, v] W fun e w' => e = .returned (.bool true) ∧ Below W.heap.size W w' := by
  obtain ⟨a, cap, rfl, hacts⟩ := acts_at R
  have h2 : decide (150 < l.length) = false := decide_eq_false (by omega)
  have hn3 : ¬ 300 < (n : Int) := by omega
  have HA := Lib.hid hacts
  clear R hacts
  go_enter Try.func7, Try.ntmps7
  go_wp2_with fail
  refine (shown_any _).mono ?_
  rintro e w0 ⟨rfl, hb0⟩
  go_wp2_with fail
  refine (made n h1 (by omega) W w0 hb0).mono ?_
  rintro e w1 ⟨b, g, bm, rfl, hd, _, hb1, hg1, hm1⟩
  have H1 := Lib.hid hd
  clear hd
  go_wp2_with fail
  refine (rnew_some n h1 (by omega) w1).mono ?_
  rintro e w2 ⟨B, rfl, hr, hbel, hfo⟩
  have hlen : (w1.heap.size : Nat) = w1.heap.size := rfl
  have htwo : Two W w2 b g bm B (new n) (new n) := ⟨H1.out.below hbel, hr, fun k hk => Nat.le_trans H1.out.bel.size (hfo k hk), fun k hk hf => by have := hfo k hk; have := H1.out.disk.lt hf; omega⟩
  have HT := Lib.hid htwo
  clear htwo hr hbel hfo hlen H1
  have hlen := len_any HT.out.at_.disk
  rw [show (new n).olds.length = n from by simp [new]] at hlen
  have HLEN := Lib.hid hlen
  clear hlen
  go_wp2_with (go_at_call 19; refine HLEN.out.mono ?_; rintro e' w' ⟨rfl, rfl⟩)
  go_loopw [7, 9, 10, 11, 12, 13] (fun i _ _ _ _ _ wr => ActsInv W b g bm B n l.length i wr) (fun i _ _ _ _ _ _ => l.length - (intOf i).toNat)
  case atStart => exact ⟨0, _, rfl, Nat.zero_le _, by simp [new], HT.out⟩
  case round =>
    obtain ⟨j, D, rfl, hj, hDn, htw⟩ := hrel
    have HW := Lib.hid htw
    have HDN := Lib.hid hDn
    clear htw hDn
    by_cases hlt : j < l.length
    · obtain ⟨bb, off, k, i, s, fv, fs, rfl, hact⟩ := HA.out j hlt
      obtain ⟨fa, fcap, rfl⟩ := hact.row.len
      have bel := HW.out.at_.bel
      have q0 : wr.cell? ⟨bb, off + j * 4, none⟩ = some (.int .i64 k) := (bel.cell (p := ⟨bb, off + j * 4, none⟩) hact.lt).trans hact.c0
      have q1 : wr.cell? ⟨bb, off + j * 4 + 1, none⟩ = some (.int .i64 i) := (bel.cell (p := ⟨bb, off + j * 4 + 1, none⟩) hact.lt).trans hact.c1
      have q2 : wr.cell? ⟨bb, off + j * 4 + 2, none⟩ = some (.string s) := (bel.cell (p := ⟨bb, off + j * 4 + 2, none⟩) hact.lt).trans hact.c2
      have q3 : wr.cell? ⟨bb, off + j * 4 + 3, none⟩ = some (.slice fa fs.length fcap) := (bel.cell (p := ⟨bb, off + j * 4 + 3, none⟩) hact.lt).trans hact.c3
      have HACT := Lib.hid hact
      clear bel hact
      have hji : (j : Int) < (l.length : Int) := by omega
      have hj150 : (j : Int) < 150 := by omega
      by_cases hbig : 200 < s.size ∨ 100 < fs.length
      · have hb9 := Lib.hid (HW.out.below ((Below.refl _ wr).alloc (Nat.le_refl _) (.cells #[.int .i64 k, .int .i64 i, .string s, .slice fa fs.length fcap] 47))).at_.bel
        by_cases hb1 : 200 < s.size
        · have hb2 : decide (200 < s.size) = true := decide_eq_true hb1
          clear hbig
          go_wp2_with (go_at_call 8; refine (shown_any _).mono ?_; rintro e' w5 ⟨rfl, hb5⟩)
          go_ret
          exact ⟨rfl, hb9.out.trans (hb5.mono hb9.out.size)⟩
        · have hb2 : decide (200 < s.size) = false := decide_eq_false hb1
          have hb3 : 100 < fs.length := by omega
          have hb4 : decide (100 < fs.length) = true := decide_eq_true hb3
          clear hbig
          go_wp2_with (go_at_call 8; refine (shown_any _).mono ?_; rintro e' w5 ⟨rfl, hb5⟩)
          go_ret
          exact ⟨rfl, hb9.out.trans (hb5.mono hb9.out.size)⟩
      · have hs2 : s.size ≤ 200 := by omega
        have hf2 : fs.length ≤ 100 := by omega
        clear hbig
        go_upto_block 2 with fail
        have h3 := HW.out.below ((Below.refl _ wr).alloc (Nat.le_refl _) (.cells #[.int .i64 k, .int .i64 i, .string s, .slice fa fs.length fcap] 47))
        obtain ⟨w3, hw3⟩ : ∃ w3, w3 = wr.alloc (.cells #[.int .i64 k, .int .i64 i, .string s, .slice fa fs.length fcap] 47) := ⟨_, rfl⟩
        have p0 : w3.cell? ⟨wr.heap.size, 0, none⟩ = some (.int .i64 k) := by rw [hw3, World.cell?_alloc_at _ _ _ _ rfl]; rfl
        have p1 : w3.cell? ⟨wr.heap.size, 1, none⟩ = some (.int .i64 i) := by rw [hw3, World.cell?_alloc_at _ _ _ _ rfl]; rfl
        have p2 : w3.cell? ⟨wr.heap.size, 2, none⟩ = some (.string s) := by rw [hw3, World.cell?_alloc_at _ _ _ _ rfl]; rfl
        have p3 : w3.cell? ⟨wr.heap.size, 3, none⟩ = some (.slice fa fs.length fcap) := by rw [hw3, World.cell?_alloc_at _ _ _ _ rfl]; rfl
        have HSL := Lib.hid (show wr.heap.size < w3.heap.size from World.block_lt_of_cell? _ _ p0)
        have HSF := Lib.hid (show ¬ Foot b g bm wr.heap.size from fun h => by have := HW.out.at_.disk.lt h; omega)
        have HSR := Lib.hid (show ¬ FootR B wr.heap.size from fun h => by have := HW.out.ref.lt h; omega)
        rw [← hw3] at h3
        have H3 := Lib.hid h3
        rw [← hw3]
        clear h3 hw3 q0 q1 q2 q3
        -- ARMS
        go_cut [9, 10, 11, 12, 13] from 51 to 166 (fun s9 s10 s11 s12 s13 wc => Meet W b g bm B n s9 wc)
        case first =>
          by_cases e0 : k = 0
          · subst e0
            have HC := Lib.hid (show ∀ w, Two W w b g bm B D D → Calls Try.prog 10 #[.pointer (some ⟨b, 0, none⟩), .int .i64 i, .string s] w fun e w' => e = .returned (.int .i64 (Dk.write D i s.data.toList).2) ∧ Two W w' b g bm B (Dk.write D i s.data.toList).1 D ∧ Kp (Foot b g bm) w w' from fun w h => h.wr i s (by omega))
            have HCR := Lib.hid (show ∀ w, Two W w b g bm B (Dk.write D i s.data.toList).1 D → Calls Try.prog 20 #[.pointer (some ⟨B.b, 0, none⟩), .int .i64 i, .string s] w fun e w' => e = .returned (.int .i64 (Dk.write D i s.data.toList).2) ∧ Two W w' b g bm B (Dk.write D i s.data.toList).1 (Dk.write D i s.data.toList).1 ∧ Kp (FootR B) w w' from fun w h => h.wrR i s (by omega))
            have HL := Lib.hid (write_len D i s.data.toList)
            generalize Dk.write D i s.data.toList = DW at *
            obtain ⟨D2, er⟩ := DW
            go_wp2_with fail
            go_region_held3 (fun w' => w'.cell? ⟨wr.heap.size, 1, none⟩ = some (.int .i64 i) ∧ w'.cell? ⟨wr.heap.size, 2, none⟩ = some (.string s))
              (first | go_keep | exact ⟨z1, z2⟩ | exact ⟨y1, y2⟩)
              (first
                | (go_at_call 10; refine (HC.out _ (H3.out.below (Below.refl _ _).drew)).mono ?_; rintro e' w5 ⟨rfl, h5, k5⟩; have y1 := (k5.cell (p := ⟨wr.heap.size, 1, none⟩) HSL.out HSF.out).trans p1; have y2 := (k5.cell (p := ⟨wr.heap.size, 2, none⟩) HSL.out HSF.out).trans p2; have hl5 := Nat.lt_of_lt_of_le HSL.out k5.size)
                | (go_at_call 20; refine (HCR.out _ h5).mono ?_; rintro e' w6 ⟨rfl, h6, k6⟩; have z1 := (k6.cell (p := ⟨wr.heap.size, 1, none⟩) hl5 HSR.out).trans y1; have z2 := (k6.cell (p := ⟨wr.heap.size, 2, none⟩) hl5 HSR.out).trans y2))
            all_goals
              have H6 := Lib.hid h6
              clear h5 h6 k5 k6 y1 y2 z1 z2
              go_wp2_with fail
              go_meet
              exact ⟨by simp, D2, by rw [HL.out]; exact HDN.out, H6.out⟩
          · have t0 : (k == 0) = false := beq_eq_false_iff_ne.2 e0
            by_cases e1 : k = 1
            · subst e1
              have HC := Lib.hid (show ∀ w, Two W w b g bm B D D → Calls Try.prog 10 #[.pointer (some ⟨b, 0, none⟩), .int .i64 i, .string s] w fun e w' => e = .returned (.int .i64 (Dk.write D i s.data.toList).2) ∧ Two W w' b g bm B (Dk.write D i s.data.toList).1 D ∧ Kp (Foot b g bm) w w' from fun w h => h.wr i s (by omega))
              have HCR := Lib.hid (show ∀ w, Two W w b g bm B (Dk.write D i s.data.toList).1 D → Calls Try.prog 20 #[.pointer (some ⟨B.b, 0, none⟩), .int .i64 i, .string s] w fun e w' => e = .returned (.int .i64 (Dk.write D i s.data.toList).2) ∧ Two W w' b g bm B (Dk.write D i s.data.toList).1 (Dk.write D i s.data.toList).1 ∧ Kp (FootR B) w w' from fun w h => h.wrR i s (by omega))
              have HL := Lib.hid (write_len D i s.data.toList)
              generalize Dk.write D i s.data.toList = DW at *
              obtain ⟨D2, er⟩ := DW
              go_wp2_with fail
              go_region_held3 (fun w' => w'.cell? ⟨wr.heap.size, 1, none⟩ = some (.int .i64 i) ∧ w'.cell? ⟨wr.heap.size, 2, none⟩ = some (.string s))
                (first | go_keep | exact ⟨z1, z2⟩ | exact ⟨y1, y2⟩)
                (first
                  | (go_at_call 10; refine (HC.out _ (H3.out.below (Below.refl _ _).drew)).mono ?_; rintro e' w5 ⟨rfl, h5, k5⟩; have y1 := (k5.cell (p := ⟨wr.heap.size, 1, none⟩) HSL.out HSF.out).trans p1; have y2 := (k5.cell (p := ⟨wr.heap.size, 2, none⟩) HSL.out HSF.out).trans p2; have hl5 := Nat.lt_of_lt_of_le HSL.out k5.size)
                  | (go_at_call 20; refine (HCR.out _ h5).mono ?_; rintro e' w6 ⟨rfl, h6, k6⟩; have z1 := (k6.cell (p := ⟨wr.heap.size, 1, none⟩) hl5 HSR.out).trans y1; have z2 := (k6.cell (p := ⟨wr.heap.size, 2, none⟩) hl5 HSR.out).trans y2))
              all_goals
                have H6 := Lib.hid h6
                clear h5 h6 k5 k6 y1 y2 z1 z2
                go_wp2_with fail
                go_meet
                exact ⟨by simp, D2, by rw [HL.out]; exact HDN.out, H6.out⟩
            · have t1 : (k == 1) = false := beq_eq_false_iff_ne.2 e1
              by_cases e2 : k = 2
              · subst e2
                have HR0 := Lib.hid (H3.out.rd i)
                go_wp2_with (go_at_call 14; refine HR0.out.mono ?_; rintro e' w5 ⟨rfl, h5, k5⟩; have y1 := (k5.cell (p := ⟨wr.heap.size, 1, none⟩) HSL.out HSF.out).trans p1)
                have HR1 := Lib.hid (h5.rdR i)
                have H5 := Lib.hid h5
                clear h5 k5
                generalize (⟨(Dk.read D i).1.toArray⟩ : ByteArray) = rt at *
                generalize (Dk.read D i).2 = re at *
                go_wp2_with (go_at_call 21; refine HR1.out.mono ?_; rintro e' w6 ⟨rfl, rfl⟩)
                go_meet
                exact ⟨by simp, D, HDN.out, H5.out⟩
              · have t2 : (k == 2) = false := beq_eq_false_iff_ne.2 e2
                by_cases e3 : k = 3
                · subst e3
                  have HC := Lib.hid (show ∀ w, Two W w b g bm B D D → Calls Try.prog 11 #[.pointer (some ⟨b, 0, none⟩)] w fun e w' => e = .returned (.int .i64 (Dk.sync D).2) ∧ Two W w' b g bm B (Dk.sync D).1 D ∧ Kp (Foot b g bm) w w' from fun w h => h.sy)
                  have HCR := Lib.hid (show ∀ w, Two W w b g bm B (Dk.sync D).1 D → Calls Try.prog 22 #[.pointer (some ⟨B.b, 0, none⟩)] w fun e w' => e = .returned (.int .i64 (Dk.sync D).2) ∧ Two W w' b g bm B (Dk.sync D).1 (Dk.sync D).1 ∧ Kp (FootR B) w w' from fun w h => h.syR)
                  have HL := Lib.hid (sync_len H3.out.ref.ok)
                  generalize Dk.sync D = DW at *
                  obtain ⟨D2, er⟩ := DW
                  go_wp2_with (first
                    | (go_at_call 11; refine (HC.out _ H3.out).mono ?_; rintro e' w5 ⟨rfl, h5, k5⟩)
                    | (go_at_call 22; refine (HCR.out _ h5).mono ?_; rintro e' w6 ⟨rfl, h6, k6⟩))
                  go_meet
                  exact ⟨by simp, D2, by rw [HL.out]; exact HDN.out, h6⟩
                · have t3 : (k == 3) = false := beq_eq_false_iff_ne.2 e3
                  by_cases e4 : k = 4
                  · subst e4
                    have hi2 := HACT.out.ii.2
                    have HC := Lib.hid (H3.out.fu i hi2)
                    go_wp2_with (go_at_call 16; refine HC.out.mono ?_; rintro e' w5 ⟨rfl, h5, k5⟩; have y1 := (k5.cell (p := ⟨wr.heap.size, 1, none⟩) HSL.out HSF.out).trans p1)
                    have HC2 := Lib.hid (h5.fuR i hi2)
                    clear h5 k5
                    go_wp2_with (go_at_call 23; refine HC2.out.mono ?_; rintro e' w6 ⟨rfl, h6, k6⟩)
                    go_meet
                    exact ⟨by simp, setFuse D i, HDN.out, h6⟩
                  · have t4 : (k == 4) = false := beq_eq_false_iff_ne.2 e4
                    by_cases e5 : k = 5
                    · subst e5
                      have HC := Lib.hid H3.out.cu
                      go_wp2_with (first
                        | (go_at_call 12; refine HC.out.mono ?_; rintro e' w5 ⟨rfl, h5, k5⟩)
                        | (go_at_call 24; refine h5.cuR.mono ?_; rintro e' w6 ⟨rfl, h6, k6⟩))
                      go_meet
                      exact ⟨by simp, cut D, HDN.out, h6⟩
                    · have t5 : (k == 5) = false := beq_eq_false_iff_ne.2 e5
                      by_cases e6 : k = 6
                      · subst e6
                        have hrow := HACT.out.row
                        have hbw := (H3.out.below (Below.refl _ _).drew).at_.bel
                        have HC := Lib.hid ((H3.out.below (Below.refl _ _).drew).on_ (.slice fa fs.length fcap) fs (fatesD_of_row HACT.out.row hbw (fun k hk => H3.out.at_.foot hk) (by omega) HACT.out.fi))
                        have HCR := Lib.hid (show ∀ w, Two W w b g bm B (Dk.on D fs).1 D → Calls Try.prog 25 #[.pointer (some ⟨B.b, 0, none⟩), .slice fa fs.length fcap] w fun e w' => e = .returned (.int .i64 (Dk.on D fs).2) ∧ Two W w' b g bm B (Dk.on D fs).1 (Dk.on D fs).1 ∧ Kp (FootR B) w w' from fun w h => h.onR _ fs (fatesR_of_row HACT.out.row h.at_.bel h.hf (by omega) HACT.out.fi))
                        have HL := Lib.hid (on_len D fs)
                        clear hrow hbw
                        generalize Dk.on D fs = DW at *
                        obtain ⟨D2, er⟩ := DW
                        go_wp2_with fail
                        go_region_held3 (fun w' => w'.cell? ⟨wr.heap.size, 3, none⟩ = some (.slice fa fs.length fcap))
                          (first | go_keep | exact z1 | exact y1)
                          (first
                            | (go_at_call 13; refine HC.out.mono ?_; rintro e' w5 ⟨rfl, h5, k5⟩; have y1 := (k5.cell (p := ⟨wr.heap.size, 3, none⟩) HSL.out HSF.out).trans p3; have hl5 := Nat.lt_of_lt_of_le HSL.out k5.size)
                            | (go_at_call 25; refine (HCR.out _ h5).mono ?_; rintro e' w6 ⟨rfl, h6, k6⟩; have z1 := (k6.cell (p := ⟨wr.heap.size, 3, none⟩) hl5 HSR.out).trans y1))
                        all_goals
                          have H6 := Lib.hid h6
                          clear h5 h6 k5 k6 y1 z1
                          go_wp2_with fail
                          go_meet
                          exact ⟨by simp, D2, by rw [HL.out]; exact HDN.out, H6.out⟩
                      · have t6 : (k == 6) = false := beq_eq_false_iff_ne.2 e6
                        go_wp2_with fail
                        go_meet
                        exact ⟨rfl, D, HDN.out, H3.out⟩
        case rest =>
          obtain ⟨rfl, D2, hd2, h2⟩ := hcut
          have H2 := Lib.hid h2
          clear h2 p0 p1 p2 p3 HSL HSF HSR H3 HACT HW HDN
          obtain ⟨of, hof⟩ : ∃ of, D2.off = of := ⟨_, rfl⟩
          have hne : ((!of) == of) = false := by cases of <;> rfl
          have c4 := H2.out.ref.c4
          rw [hof] at c4
          have HDR := Lib.hid (H2.out.below (Below.refl _ _).drew)
          have cup := up_any HDR.out.at_.disk
          rw [hof] at cup
          have CUP := Lib.hid cup
          have hdl : (Dk.dirty D2).length ≤ 4096 := by
            have q1 := dirtyFrom_length D2.news 0
            have q2 := H2.out.ref.ok.len
            have q3 := H2.out.ref.ok.hi
            show (dirtyFrom 0 D2.news).length ≤ 4096
            omega
          have HDL := Lib.hid hdl
          have HND := Lib.hid hd2
          clear cup hdl hof hd2
          go_wp2_with fail
          go_region_held3 (fun w' => w'.cell? ⟨B.b, 4, none⟩ = some (.bool of))
            (first | go_keep | exact x3 | exact x2 | exact x1)
            (first
              | (go_at_call 17; refine CUP.out.mono ?_; rintro e' w' ⟨rfl, rfl⟩)
              | (go_at_call 15; refine HDR.out.di.mono ?_; rintro e' wa ⟨va, rfl, oa, ha, ka⟩; have x1 : wa.cell? ⟨B.b, 4, none⟩ = some (.bool of) := (ka.cell (p := ⟨B.b, 4, none⟩) (HDR.out.ref.lt (.inl rfl)) (HDR.out.dis _ (.inl rfl))).trans c4)
              | (go_at_call 27; refine ha.diR.mono ?_; rintro e' wb ⟨vb, rfl, ob, kb⟩; have x2 : wb.cell? ⟨B.b, 4, none⟩ = some (.bool of) := (kb.cell (p := ⟨B.b, 4, none⟩) (ha.ref.lt (.inl rfl))).trans x1)
              | (go_at_call 26; refine (same_any _ HDL.out (owns_below oa kb) ob).mono ?_; rintro e' wc ⟨rfl, mm, rfl⟩; have x3 := x2))
          all_goals
            have HN := Lib.hid ((ha.below kb).below (below_drewN _ mm))
            clear ha ka oa ob kb
            go_wp2_with fail
            go_roundw
            case rel => exact ⟨j + 1, _, by go_num, hlt, HND.out, HN.out⟩
            case measure => simp [intOf]; omega
        -- END ARMS
    · have hje : j = l.length := by omega
      have hnl : ¬ (j : Int) < (l.length : Int) := by omega
      clear hlt
      go_wp2_with fail
      go_loopw [14, 15, 16, 17, 18] (fun i _ _ _ _ wr => ActsInv W b g bm B n n i wr) (fun i _ _ _ _ _ => n - (intOf i).toNat)
      case atStart => exact ⟨0, D, rfl, Nat.zero_le _, HDN.out, HW.out⟩
      case round =>
        obtain ⟨j2, D3, rfl, hj2, hDn3, htw3⟩ := hrel
        have H3 := Lib.hid htw3
        have HDN3 := Lib.hid hDn3
        clear htw3 hDn3
        by_cases hlt2 : j2 < n
        · have hji : (j2 : Int) < (n : Int) := by omega
          have hj300 : (j2 : Int) < 300 := by omega
          have HR0 := Lib.hid (H3.out.rd j2)
          go_wp2_with (go_at_call 14; refine HR0.out.mono ?_; rintro e' w5 ⟨rfl, h5, k5⟩)
          have HR1 := Lib.hid (h5.rdR j2)
          have H5 := Lib.hid h5
          clear h5 k5
          generalize (⟨(Dk.read D3 j2).1.toArray⟩ : ByteArray) = rt at *
          generalize (Dk.read D3 j2).2 = re at *
          go_wp2_with (go_at_call 21; refine HR1.out.mono ?_; rintro e' w6 ⟨rfl, rfl⟩)
          go_roundw
          case rel => exact ⟨j2 + 1, D3, by go_num, hlt2, HDN3.out, H5.out⟩
          case measure => simp [intOf]; omega
        · have hje2 : j2 = n := by omega
          have hnl2 : ¬ (j2 : Int) < (n : Int) := by omega
          clear hlt2
          go_wp2_with fail
          go_ret
          exact ⟨rfl, H3.out.at_.bel⟩

theorem acts_walk (n : Int) (v : Value) (l : List ActTy.den) (W : World) (h0 : (Lit.int .i64 n).wf = true) (R : Rd.Reads W (.sl ActTy) [v] l) :
    Calls Try.prog 7 #[.int .i64 n, v] W fun e w' => e = .returned (.bool true) ∧ Below W.heap.size W w' := by
  obtain ⟨b0, b1⟩ := bounds_i64 h0
  by_cases hf : 150 < l.length ∨ (300 < n ∧ n ≤ 4096)
  · obtain ⟨a, cap, rfl, _⟩ := acts_at R
    exact acts_far n a cap l.length W hf
  · by_cases ho : n < 1 ∨ 4096 < n
    · obtain ⟨a, cap, rfl, _⟩ := acts_at R
      exact acts_out n a cap l.length W (by omega) ho
    · obtain ⟨m, rfl⟩ : ∃ m : Nat, n = m := ⟨n.toNat, by omega⟩
      exact acts_near m v l W R (by omega) (by omega) (by omega)
end Go.Proofs.Ytoafebndlldclaa.Dk
