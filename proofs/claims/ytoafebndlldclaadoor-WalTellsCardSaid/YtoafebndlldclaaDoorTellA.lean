/- For the law WalTells: the sectors' bytes as a call, cut of whatever length, and how the lives read. -/
import Derived.Test.YtoafebndlldclaaDoorAppTx
import Derived.Test.YtoafebndlldclaaDoorDg
import Derived.OpenShut
namespace Go.Proofs.YtoafebndlldclaaDoor.Wl
open Go Go.RowKit Go.Shelf Dk Fr Go.Proofs.YtoafebndlldclaaDoor.PAll Go.Proofs.YtoafebndlldclaaDoorW.PrintWords Go.Proofs.YtoafebndlldclaaDoorW.PrintLast

theorem cutA_loop (l : List Bs) (hl : l.length ≤ 9223372036854775807) (hs : ∀ t ∈ l, t.length ≤ 9223372036854775807) (d : Nat) : ∀ (k i : Nat), i + d = min l.length 8 → d < k → syzygylaw19_cut.l0 k (bas l) (bas ((l.take i).map fun t => t.take 90)) i = some (bas (cutL l)) := by
  have hbl := bas_length l
  induction d with
  | zero =>
    intro k i hi hk
    obtain ⟨k, rfl⟩ : ∃ m, k = m + 1 := ⟨k - 1, by omega⟩
    simp only [syzygylaw19_cut.l0]
    have he : (l.take i).map (fun t => t.take 90) = cutL l := by
      unfold cutL
      by_cases h8 : l.length ≤ 8
      · rw [List.take_of_length_le (by omega), List.take_of_length_le (by omega)]
      · rw [show i = 8 from by omega]
    rw [he]
    by_cases h : i < l.length
    · rw [if_pos (by omega), if_neg (by omega)]
    · rw [if_neg (by omega)]
  | succ d ih =>
    intro k i hi hk
    obtain ⟨k, rfl⟩ : ∃ m, k = m + 1 := ⟨k - 1, by omega⟩
    have hil : i < l.length := by omega
    obtain ⟨t, ht⟩ : ∃ t, l[i]? = some t := ⟨_, List.getElem?_eq_getElem hil⟩
    have htl := hs t (List.mem_of_getElem? ht)
    have hm : mn ((⟨t.toArray⟩ : ByteArray).size : Int) 90 = ((min t.length 90 : Nat) : Int) := by rw [ba_size']; unfold mn; split <;> omega
    simp only [syzygylaw19_cut.l0]
    rw [if_pos (by omega), if_pos (by omega), if_pos (by omega), bas_at ht, hm, if_pos (by omega), ba_size', if_pos (by omega), if_pos (by simp [bas]; omega), wrap_ok (by omega) (by omega)]
    have hn : bas ((l.take i).map fun t => t.take 90) ++ [(⟨t.toArray⟩ : ByteArray).extract 0 ((min t.length 90 : Nat) : Int).toNat] = bas ((l.take (i + 1)).map fun t => t.take 90) := by
      rw [List.take_add_one, ht]
      unfold bas
      simp only [List.map_append, Option.toList_some, List.map_cons, List.map_nil]
      congr 2
      apply ext_list
      rw [extract_list, Int.toNat_natCast, List.drop_zero]
      show t.take _ = t.take 90
      rw [List.take_eq_take_iff]
      omega
    rw [hn]
    have := ih k (i + 1) (by omega) (by omega)
    rw [show ((i + 1 : Nat) : Int) = (i : Int) + 1 from by omega] at this
    exact this

theorem cutA_any {w : World} {v : Value} {l : List Bs} (h : RowT w v l) (hs : ∀ t ∈ l, t.length ≤ 9223372036854775807) :
    Calls Tryd.prog 15 #[v] w fun e w' => ∃ v', e = .returned v' ∧ Texts w' w.heap.size v' (cutL l) ∧ Below w.heap.size w w' := by
  have hh := h
  obtain ⟨a, c, rfl, hc, _, _⟩ := h
  have hk := cutA_loop l (len_row hh) hs (min l.length 8) (min l.length 8 + 1) 0 (by omega) (by omega)
  have hr := syzygylaw19_cut.calls (min l.length 8 + 1) a c (bas l) (bas (cutL l)) w (rowT_C hh) (by rw [bas_length]; exact hc) (by unfold syzygylaw19_cut.f; simpa [bas] using hk)
  rw [bas_length] at hr
  refine hr.mono ?_
  rintro e w' ⟨v', rfl, hR, hb⟩
  refine ⟨v', rfl, ?_, hb⟩
  have := texts_of_R hR
  rwa [show (bas (cutL l)).map (fun s => s.data.toList) = cutL l from by unfold bas; rw [List.map_map]; simp [Function.comp_def]] at this


set_option maxRecDepth 100000 in
set_option maxHeartbeats 2000000 in
theorem bytes_call {w : World} {b g bm : Nat} {D : DS} (h : IsDisk w b g bm D) (hup : D.off = false) (fr to_ : Nat) (hft : fr ≤ to_) (hn : to_ ≤ D.olds.length) :
    Calls Tryd.prog 42 #[.pointer (some ⟨b, 0, none⟩), .int .i64 fr, .int .i64 to_] w fun e w' => e = .returned (.string ⟨(bytesOf D fr (to_ - fr)).toArray⟩) ∧ Below w.heap.size w w' := by
  have hn4 := h.ok.hi
  have HH := Lib.hid h
  have HUP := Lib.hid hup
  clear h hup
  go_enter Tryd.func42, Tryd.ntmps42
  go_wp2
  go_loopw [7, 8, 9, 10] (fun s i _ _ wr => ∃ m : Nat, s = .string ⟨(bytesOf D fr (m - fr)).toArray⟩ ∧ i = .int .i64 m ∧ fr ≤ m ∧ m ≤ to_ ∧ Below w.heap.size w wr) (fun _ i _ _ _ => to_ - (intOf i).toNat)
  case atStart => exact ⟨fr, by rw [Nat.sub_self]; rfl, rfl, Nat.le_refl _, hft, Below.refl _ _⟩
  case round =>
    obtain ⟨m, rfl, rfl, hm1, hm2, hb⟩ := hrel
    have HB := Lib.hid hb
    clear hb
    by_cases hqn : m < to_
    · have hw0 : within D (m : Int) = 0 := within_some HUP.out (by omega) (by omega)
      have hrd : Dk.read D (m : Int) = (sect D m, 0) := by unfold Dk.read; rw [if_neg (by rw [hw0]; simp), Int.toNat_natCast]
      have hra := read_any (HH.out.below HB.out) (m : Int)
      rw [hrd] at hra
      have hcat : (⟨(bytesOf D fr (m - fr)).toArray⟩ : ByteArray) ++ ⟨(sect D m).toArray⟩ = ⟨(bytesOf D fr (m + 1 - fr)).toArray⟩ := by
        rw [show m + 1 - fr = (m - fr) + 1 from by omega, bytesOf_snoc, show fr + (m - fr) = m from by omega]
        apply ext_list
        rw [ByteArray.data_append, Array.toList_append]
      have hl1 : (⟨(bytesOf D fr (m - fr)).toArray⟩ : ByteArray).size = 64 * (m - fr) := by rw [ba_size', bytesOf_length HH.out.ok (m - fr) fr (by omega)]
      have hl2 : (⟨(sect D m).toArray⟩ : ByteArray).size = 64 := by rw [ba_size', sect_length HH.out.ok (by omega)]
      have HCAT := Lib.hid hcat
      have HRA := Lib.hid hra
      clear hcat hra hrd hw0
      obtain ⟨s1, hs1⟩ : ∃ s1 : ByteArray, s1 = ⟨(bytesOf D fr (m - fr)).toArray⟩ := ⟨_, rfl⟩
      obtain ⟨s2, hs2⟩ : ∃ s2 : ByteArray, s2 = ⟨(sect D m).toArray⟩ := ⟨_, rfl⟩
      rw [← hs1, ← hs2] at HCAT
      rw [← hs2] at HRA hl2
      rw [← hs1] at hl1
      rw [← hs1]
      clear hs1 hs2
      go_wp2_with fail
      refine HRA.out.mono ?_
      rintro e w3 ⟨rfl, hb3⟩
      have HB3 := Lib.hid (HB.out.trans (hb3.mono HB.out.size))
      clear hb3
      go_wp2
      rw [HCAT.out]
      go_roundw
      case rel => exact ⟨m + 1, rfl, by go_num, by omega, by omega, HB3.out⟩
      case measure => simp [intOf]; omega
    · obtain rfl : m = to_ := by omega
      go_wp2
      go_ret
      exact ⟨rfl, HB.out⟩

theorem fates_row {W w : World} {b g bm : Nat} {v : Value} {l : List Int} (hr : Rd.RowOf W (Value.int .i64) v l) (hb : Below W.heap.size W w) (hf : ∀ k, Foot b g bm k → W.heap.size ≤ k) (hl : l.length ≤ 9223372036854775807) (hw : ∀ x ∈ l, -9223372036854775808 ≤ x ∧ x ≤ 9223372036854775807) : FatesAt b g bm w v l := by
  obtain ⟨a, cap, h1, h2, _, h4⟩ := hr
  refine ⟨a, cap, h1, h2, hl, hw, fun hne => ?_⟩
  obtain ⟨fb, off, k0, k1, k2⟩ := h4 hne
  exact ⟨fb, off, k0, Nat.lt_of_lt_of_le k1 hb.size, fun h => by have := hf _ h; omega, fun j x hj => (hb.cell (p := ⟨fb, off + j, none⟩) k1).trans (k2 j x hj)⟩

abbrev LifeTy : Rd.Ty := .fld (.sl (.sl .str)) (.fld (.int .u8) (.fld (.sl (.int .i64)) .fin))
/-- one life of the row: n lists of texts, the fuse, the fates -/
structure LifeAt (W : World) (bb o n : Nat) (ta : Option Addr) (tc : Nat) (f : Nat) (fa : Option Addr) (fc : Nat) (fs : List Int) : Prop where
  lt : bb < W.heap.size
  c0 : W.cell? ⟨bb, o, none⟩ = some (.slice ta n tc)
  c1 : W.cell? ⟨bb, o + 1, none⟩ = some (.int .u8 f)
  c2 : W.cell? ⟨bb, o + 2, none⟩ = some (.slice fa fs.length fc)
  n63 : n ≤ maxLen
  f8 : f ≤ 255
  row : Rd.RowOf W (Value.int .i64) (.slice fa fs.length fc) fs
  fi : ∀ x ∈ fs, -9223372036854775808 ≤ x ∧ x ≤ 9223372036854775807
  txt : ∀ k, k < n → ∃ tb toff va vc l, ta = some ⟨tb, toff, none⟩ ∧ tb < W.heap.size ∧ W.cell? ⟨tb, toff + k, none⟩ = some (.slice va l.length vc) ∧ RowT W (.slice va l.length vc) l ∧ ∀ t ∈ l, t.length ≤ 9223372036854775807

theorem lives_at {W : World} {v : Value} {l : List LifeTy.den} (R : Rd.Reads W (.sl LifeTy) [v] l) : ∃ a cap, v = .slice a l.length cap ∧ ∀ (j : Nat), j < l.length → ∃ bb off n ta tc f fa fc fs, a = some ⟨bb, off, none⟩ ∧ LifeAt W bb (off + j * 3) n ta tc f fa fc fs := by
  obtain ⟨a, cap, h1, h2, h3, h4⟩ := R
  refine ⟨a, cap, (List.cons.inj h1).1, fun j hj => ?_⟩
  obtain ⟨bb, off, k0, k1, k2⟩ := h4 (by rintro rfl; simp at hj)
  obtain ⟨cs, e1, e2, e3⟩ := k2 j _ (List.getElem?_eq_getElem hj)
  obtain ⟨⟨ts, f, fs, u⟩, hx⟩ : ∃ x : LifeTy.den, x = l[j] := ⟨_, rfl⟩
  rw [← hx] at e3
  obtain ⟨f1, ⟨f2, w2⟩, f3, _⟩ := e3
  match cs, e1 with
  | [x0, x1, x2], _ =>
    simp only [Rd.Ty.size, List.take_succ_cons, List.take_zero, List.drop_succ_cons, List.drop_zero, List.cons.injEq, and_true] at f1 f2 f3
    subst f2
    obtain ⟨r1, r2⟩ := Rd.row_ints f3
    obtain ⟨fa, fc, rfl⟩ := r1.len
    obtain ⟨b0, b1⟩ := bounds_u8 w2
    obtain ⟨f, rfl⟩ := Int.eq_ofNat_of_zero_le b0
    obtain ⟨ta, tc, g1, g2, g3, g4⟩ := f1
    obtain rfl := (List.cons.inj g1).1
    refine ⟨bb, off, ts.length, ta, tc, f, fa, fc, fs, k0, k1, e2 0 _ rfl, e2 1 _ rfl, e2 2 _ rfl, Nat.le_trans g2 g3, by omega, r1, fun x hx => bounds_i64 (r2 x hx), fun k hk => ?_⟩
    obtain ⟨tb, toff, m0, m1, m2⟩ := g4 (by rintro rfl; simp at hk)
    have hk : k < List.length (α := List ByteArray) ts := hk
    obtain ⟨tx, htx⟩ : ∃ tx : List ByteArray, tx = List.get (α := List ByteArray) ts ⟨k, hk⟩ := ⟨_, rfl⟩
    obtain ⟨cs, d1, d2, d3⟩ := m2 k tx (by rw [htx]; exact List.getElem?_eq_getElem hk)
    match cs, d1 with
    | [y], _ =>
      obtain ⟨p1, p2⟩ := Rd.row_strs d3
      obtain ⟨va, vc, rfl⟩ := p1.len
      have hr := row_map p1
      have hlen : (tx.map fun s => s.data.toList).length = tx.length := List.length_map ..
      refine ⟨tb, toff, va, vc, _, m0, m1, ?_, ?_, small_map p2⟩
      · have := d2 0 _ rfl
        rw [Nat.add_zero, show (Rd.Ty.sl .str).size = 1 from rfl, Nat.mul_one] at this
        rw [hlen]; exact this
      · rw [hlen]; exact hr
end Go.Proofs.YtoafebndlldclaaDoor.Wl
