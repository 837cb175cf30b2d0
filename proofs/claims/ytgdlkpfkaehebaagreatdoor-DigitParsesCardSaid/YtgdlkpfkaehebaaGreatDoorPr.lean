/- digit.Print: the text of a natural. -/
import Derived.Test.YtgdlkpfkaehebaaGreatDoorBs
import Derived.Test.YtgdlkpfkaehebaaGreatDoorFu
import Derived.Stop.RegionWithIn
set_option linter.unusedVariables false
namespace Go.Proofs.YtgdlkpfkaehebaaGreatDoor.Pr
open Go Go.RowKit Go.Proofs.YtgdlkpfkaehebaaGreatDoorW.PrintWords Go.Proofs.YtgdlkpfkaehebaaGreatDoorW.PrintLast Go.Proofs.YtgdlkpfkaehebaaGreatDoorW.PrintMore
open Nt Lm It Tk
attribute [local go_sem] Oper.semAt_some

def ba (l : List UInt8) : ByteArray := ⟨l.toArray⟩
theorem ba_size (l : List UInt8) : (ba l).size = l.length := by show l.toArray.size = l.length; simp
theorem ba_append (l m : List UInt8) : ba l ++ ba m = ba (l ++ m) := by
  apply ByteArray.ext
  simp [ba]
theorem ba_list (l : List UInt8) : (ba l).data.toList = l := by simp [ba]
theorem ba_empty : (ByteArray.empty : ByteArray) = ba [] := rfl
theorem ba_toList (l : List UInt8) : (ba l).toList = l := by rw [ByteArray.toList_eq, ba_list]
def boxT (W : World) (B : Nat) (s : ByteArray) : Prop := W.heap[B]? = some (.cells #[.string s] 9 (0, 0))
theorem boxT.cell {W : World} {B : Nat} {s : ByteArray} (h : boxT W B s) : W.cell? ⟨B, 0, none⟩ = some (.string s) ∧ W.frozen? ⟨B, 0, none⟩ = false := ⟨cell_of_row W B 0 _ _ _ h, by simp [World.frozen?, show W.heap[B]? = _ from h]⟩
theorem boxT.row {W : World} {B : Nat} {s : ByteArray} (h : boxT W B s) : Tk.rowAt B W = none := by unfold Tk.rowAt; rw [h.cell.1]; rfl

theorem repeat_call (c : Nat) (w : World) (hc : c ≤ 10) :
    Calls Tryz.prog 17 #[.string ⟨#[48]⟩, .int .i64 (c : Int)] w fun e w' => e = .returned (.string (ba (List.replicate c 48))) ∧ Below w.heap.size w w' := by
  have h := Any.strings_Repeat lays105 extra105 ⟨#[48]⟩ c w (by omega) (by show 1 * c ≤ _; omega)
  have e : Lib.repeatL (⟨#[48]⟩ : ByteArray).data.toList c = List.replicate c 48 := by
    show Lib.repeatL [48] c = _
    clear h hc
    induction c with
    | zero => rfl
    | succ c ih => simp [Lib.repeatL, ih, List.replicate_succ] at *
  rw [e] at h
  exact h
theorem trimLeft_call (s : ByteArray) (w : World) :
    Calls Tryz.prog 18 #[.string s, .string ⟨#[48]⟩] w fun e w' => e = .returned (.string (ba (stripZ s.data.toList))) ∧ w' = w := by
  have h := Any.strings_TrimLeft_one lays161 s 48 (by decide) w
  have e : Lib.trimLeftB s.data.toList 48 = stripZ s.data.toList := by
    generalize s.data.toList = l
    induction l with
    | nil => rfl
    | cons x l ih => simp [Lib.trimLeftB, stripZ] at *
  rw [e] at h
  exact h

theorem parts_snoc (l : List Nat) (x : Nat) : parts (l ++ [x]) = decK 10 x ++ parts l := by
  induction l with
  | nil => simp [parts]
  | cons d l ih => rw [List.cons_append, parts, ih, parts, List.append_assoc]
/-- between two rounds -/
structure PrAt (w : World) (pre : List Nat) (W : World) : Prop where
  box : boxT W w.heap.size (ba (parts pre))
  below : Below w.heap.size w W
  pow : Fu.Pow W
theorem pow_g : Tryz.prog.globalNamed "internal/strconv.uint64pow10" = some 4 := by kernel_rfl
theorem pow_lt {W : World} (h : Fu.Pow W) : 4 < W.heap.size := by
  unfold Fu.Pow Lib.TabIs World.var? at h
  rw [pow_g] at h
  simp only [Option.bind_some] at h
  rcases Nat.lt_or_ge 4 W.heap.size with h' | h'
  · exact h'
  · rw [Array.getElem?_eq_none h'] at h; simp at h
theorem pow_same {W W' : World} (h : Fu.Pow W) (hs : W'.heap[4]? = W.heap[4]?) : Fu.Pow W' := by
  unfold Fu.Pow Lib.TabIs World.var? at *
  rw [pow_g] at *
  simp only [Option.bind_some] at *
  rw [hs]
  exact h
theorem pow_below {W W' : World} (h : Fu.Pow W) (hb : Below W.heap.size W W') : Fu.Pow W' := pow_same h (hb.block _ (pow_lt h))
theorem pow_from {w W : World} (h : Fu.Pow w) (hb : Below w.heap.size w W) : Fu.Pow W := pow_below h hb

/-- a round's end -/
theorem pr_close {w W w1 w2 : World} {pre : List Nat} {x : Nat} {B : Nat} {s : ByteArray} {a : Act} {Ix : Code → List Nat → World → Prop} (hI : PrAt w pre W) (hb1 : Below W.heap.size W w1) (hb2 : Below w1.heap.size w1 w2) (hW3 : w.heap.size + 3 ≤ W.heap.size)
    (hpl : 4 < w.heap.size) (hB : w.heap.size < B) (hs : s = ba (parts (pre ++ [x]))) :
    ownPostG B (KpT w.heap.size) (fun pre W => PrAt w pre W) Ix (pre ++ [x]) W .normal a (w2.setCell ⟨w.heap.size, 0, none⟩ (.string s)) := by
  have hb := hb1.trans (hb2.mono hb1.size)
  have hz := hb.size
  have h0 : boxT w2 w.heap.size (ba (parts pre)) := (hb.block _ (by omega)).trans hI.box
  have hbox : boxT (w2.setCell ⟨w.heap.size, 0, none⟩ (.string s)) w.heap.size s := blk_set h0 0 _
  have hsz : (w2.setCell ⟨w.heap.size, 0, none⟩ (.string s)).heap.size = w2.heap.size := by simp
  have hother : ∀ k o, k ≠ w.heap.size → W.heap[k]? = some o → (w2.setCell ⟨w.heap.size, 0, none⟩ (.string s)).heap[k]? = some o := fun k o hk ho => by
    rw [Below.heap_setCell _ _ _ _ (by exact hk)]
    exact (hb.block k (Array.getElem?_eq_some_iff.1 ho).1).trans ho
  refine ⟨⟨by omega, fun k o hk ho _ => hother k o (by omega) ho⟩, ⟨by omega, fun k o h1 _ h3 _ => hother k o h1 h3, fun r hr => by rw [hbox.row] at hr; cases hr⟩, ⟨by rw [← hs]; exact hbox, ?_, ?_⟩⟩
  · exact (hI.below.trans (hb.mono hI.below.size)).setCell (Nat.le_refl _) _
  · refine pow_same (pow_below hI.pow hb) (Below.heap_setCell _ _ _ _ (by show _ ≠ w.heap.size; omega))

set_option maxRecDepth 100000 in
set_option maxHeartbeats 4000000 in
theorem print_call (A : Option Addr) (c : Nat) (l : List Nat) (w : World) (hr : Rw w A l) (hm : May l) (hlim : Lim l) (hc : l.length ≤ c) (hpow : Fu.Pow w) :
    Calls Tryz.prog 8 #[.slice A l.length c] w fun e w' => e = .returned (.string (ba (text (val l)))) ∧ Below w.heap.size w w' := by
  refine (callsIn_wide (n := 6)).1 ?_
  have HM := Lib.hid (fun w hr => may_call A c l w hr (by have := hm.1; omega))
  have emay : mayB l = true := decide_eq_true hm
  rw [emay] at HM
  have HR := Lib.hid hr
  have HP := Lib.hid hpow
  clear hr emay hpow
  refine callsIn_of_wp_marks Tryz.func8 rfl trivial ?_ rfl
  simp only [Tryz.ntmps8, List.size_toArray, List.length_cons, List.length_nil, Nat.reduceAdd, Nat.reduceSub, Array.replicate_succ, Array.replicate_zero, List.push_toArray, List.append_toArray, List.nil_append, List.cons_append]
  gi_wp2_with (first
    | (refine ⟨trivial, ?_⟩; gi_at_call 14; refine (callsIn_wide.2 (HM.out _ HR.out)).mono ?_; rintro e w' ⟨rfl, rfl⟩)
    | (refine ⟨trivial, ?_⟩; gi_at_call 15; refine (callsIn_wide.2 (taken_call _ _ _ 10000000000 _)).mono ?_; rintro e w' ⟨rfl, rfl⟩))
  obtain ⟨W0, hW0⟩ : ∃ W0, ((w.alloc (.cells #[.string ⟨#[]⟩] 9)).alloc (.cells #[.slice A l.length c] 24)).alloc (.cells #[.int .u64 10000000000] 31) = W0 := ⟨_, rfl⟩
  have hs : W0.heap.size = w.heap.size + 3 := by rw [← hW0]; simp
  have hB0 : Below w.heap.size w W0 := by
    rw [← hW0]
    exact (((Below.refl _ w).alloc (Nat.le_refl _) _).alloc (by simp) _).alloc (by simp; omega) _
  have h1 : boxT W0 w.heap.size (ba (parts [])) := by
    rw [← hW0]
    exact blk_grown (blk_grown (World.alloc_heap_new w _) (World.grownBy_alloc _ _ none) (by simp)) (World.grownBy_alloc _ _ none) (by simp)
  have h2 : boxN W0 (w.heap.size + 1) (.slice A l.length c) := by
    rw [← hW0]
    have := World.alloc_heap_new (w.alloc (.cells #[.string ⟨#[]⟩] 9)) (.cells #[.slice A l.length c] 24)
    rw [World.size_alloc] at this
    exact blk_grown this (World.grownBy_alloc _ _ none) (by simp)
  have h3 : boxU W0 (w.heap.size + 2) (.int .u64 ((10000000000 : Nat) : Int)) := by
    rw [← hW0]
    have := World.alloc_heap_new ((w.alloc (.cells #[.string ⟨#[]⟩] 9)).alloc (.cells #[.slice A l.length c] 24)) (.cells #[.int .u64 10000000000] 31)
    rw [World.size_alloc, World.size_alloc] at this
    exact this
  have hC : PrAt w [] W0 := ⟨h1, hB0, pow_from HP.out hB0⟩
  have hrW : Tk.rowAt w.heap.size W0 = none := h1.row
  have hap : ∀ ad, A = some ad → 0 < l.length → ad.block ≠ w.heap.size ∧ ad.block ≠ w.heap.size + 1 := by
    intro ad e hp
    subst e
    obtain ⟨o, ho, _⟩ := Rw_cells HR.out hp
    have := (Array.getElem?_eq_some_iff.1 ho).1
    omega
  have hR0 := HR.out.below hB0
  rw [hW0]
  have hseq := taken_iter 5 (by omega) 10000000000 (val l) w.heap.size (w.heap.size + 1) (w.heap.size + 1 + 1) (by omega) (by omega) (by omega) A l c W0 rfl hm hlim hc h2 h3 hR0 hap (by omega) hrW
  have HS := Lib.hid hseq
  have HC0 := Lib.hid hC
  have hpl := pow_lt HP.out
  clear hseq hC hrW hap hR0 h1 h2 h3 hB0 hW0
  refine wpIn_rangeFunc_iter (w := W0) (T := fun k => k = w.heap.size + 1) (Kp := KpT w.heap.size) rfl (by omega) (gf := 35) (lb := #[.pointer (some ⟨w.heap.size + 1, 0, none⟩), .pointer (some ⟨w.heap.size + 1 + 1, 0, none⟩)]) rfl trivial (enters_of Tryz.func35 (by kernel_rfl) rfl)
    HS.out (fun k hk => by omega)
    (fun hA hB => hA.trans hB) (fun W l o o' hl ho hc _ => KpT.put (bl := w.heap.size) W l o o' (by omega) ho hc) (Below.refl _ _) (fun _ => rfl)
    (fun pre W => PrAt w pre W) (fun c _ W => False)
    (fun s X Y row hs2 hg hr => ?hI)
    (fun c s X Y row hs2 hg hr => hs2.elim)
    HC0.out
    (fun pre x a' W => (∃ s, digs 10000000000 (val l) = pre ++ x :: s) ∧ a' = { tmps := #[.slice A l.length c, undef, .string ⟨#[]⟩, .pointer (some ⟨w.heap.size, 0, none⟩), .int .u64 (x : Int), undef, .slice A l.length c, .bool true, .bool false, .slice A l.length c, .func (.func 35) #[] #[.pointer (some ⟨w.heap.size + 1, 0, none⟩), .pointer (some ⟨w.heap.size + 1 + 1, 0, none⟩)], .int .u64 (x : Int), undef, undef, undef, undef, undef, undef, undef, undef, undef, undef, undef, undef, undef, undef, undef], defers := [] })
    ?hAx ?hS ?hSp ?assign ?body ?done ?stop
  case hI =>
    have hfar : ∀ k, k < w.heap.size + 1 → row ≠ some k := by
      intro k hk e
      rcases hr k e with h | ⟨h1, h2⟩ <;> omega
    exact ⟨blk_grown hs2.box hg (fun e => hfar _ (by omega) e.symm), hs2.below.grown hg hs2.below.size (fun k e => by rcases hr k e with h | ⟨h1, h2⟩ <;> omega), pow_same hs2.pow (hg.block _ (pow_lt hs2.pow) (fun e => hfar _ (by omega) e.symm))⟩
  case hAx =>
    rintro pre x a' s X Z row k4 hg hr
    exact k4
  case hS =>
    rintro s X Z row k1 hg hr
    exact k1
  case hSp =>
    rintro s X Z row k1 hg hr
    exact k1
  case assign =>
    rintro lp pre x W K hI hy hK
    simp only [encD]
    gi_wp2
    exact hK _ _ (KeepsFrom.refl _ _) (KpT.refl _ _) hI ⟨hy, rfl⟩
  case body =>
    rintro lp pre x a' W hl hex hI ⟨⟨sfx, hsfx⟩, rfl⟩ hlt2
    have hx10 : x < 10000000000 := digs_lt (b := 10000000000) (by omega) (val l) x (by rw [hsfx]; simp)
    have hW3 : w.heap.size + 3 ≤ W.heap.size := by
      obtain ⟨rr, hrr⟩ := hex
      have := (Array.getElem?_eq_some_iff.1 hrr).1
      omega
    obtain ⟨hpad, ht10, ht1⟩ := pad_text 10 x (by omega) (by simpa using hx10)
    have HF := Lib.hid (Fu.fmt_call x (by omega) W hI.pow)
    have HPAD := Lib.hid hpad
    have hplen : (parts pre).length ≤ 10000 := by rw [parts_len]; omega
    have HI := Lib.hid hI
    clear hpad hsfx hI
    obtain ⟨tx, htx⟩ : ∃ t, t = text x := ⟨_, rfl⟩
    rw [← htx] at ht10 ht1 HPAD
    have hb0 : (⟨(text x).toArray⟩ : ByteArray) = ba tx := by rw [htx]; rfl
    rw [hb0] at HF
    clear htx hb0
    obtain ⟨pp, hpp⟩ : ∃ t, t = parts pre := ⟨_, rfl⟩
    rw [← hpp] at hplen
    have HPP := Lib.hid hpp
    have htsz : (ba tx).size = tx.length := ba_size tx
    gi_wp2_with (refine ⟨trivial, ?_⟩; gi_at_call 16; refine ((callsIn_wide.2 HF.out).inRound lp).mono ?_; rintro e1 w1 ⟨rfl, hb1⟩)
    have hs1 := hb1.size
    have bx : boxT w1 w.heap.size (ba pp) := by rw [hpp]; exact (hb1.block _ (by omega)).trans HI.out.box
    have BX := Lib.hid bx
    obtain ⟨bx1, bx2⟩ := bx.cell
    obtain ⟨c10, hc10⟩ : ∃ k, k = 10 - tx.length := ⟨_, rfl⟩
    have hwr : IntKind.i64.wrap (10 - (tx.length : Int)) = (c10 : Int) := by rw [IntWalk.i64_in _ (by omega)]; omega
    have hc10' : c10 ≤ 10 := by omega
    have HRP := Lib.hid (fun w => repeat_call c10 w hc10')
    obtain ⟨rs, hrs⟩ : ∃ r, r = ba (List.replicate c10 48) := ⟨_, rfl⟩
    rw [← hrs] at HRP
    have hrsz : rs.size ≤ 10 := by rw [hrs, ba_size]; simp; omega
    have hppz : (ba pp).size ≤ 10000 := by rw [ba_size]; exact hplen
    have hsnoc : rs ++ ba tx ++ ba pp = ba (parts (pre ++ [x])) := by
      rw [hrs, ba_append, ba_append, hc10, HPAD.out, hpp, parts_snoc]
    have HSN := Lib.hid hsnoc
    obtain ⟨bp, hbp⟩ : ∃ b, b = ba pp := ⟨_, rfl⟩
    rw [← hbp] at bx1 hppz HSN
    obtain ⟨t2, ht2⟩ : ∃ b, rs ++ ba tx = b := ⟨_, rfl⟩
    have ht2z : t2.size ≤ 20 := by rw [← ht2, ByteArray.size_append, ba_size]; omega
    rw [ht2] at HSN
    have HBP := Lib.hid hbp
    clear hbp
    clear hrs hc10 hsnoc hplen bx hpp
    have HLT : w.heap.size < w1.heap.size := by omega
    gi_region_with (refine ⟨trivial, ?_⟩; gi_at_call 17; refine ((callsIn_wide.2 (HRP.out _)).inRound lp).mono ?_; rintro e2 w2 ⟨rfl, hb2⟩; have z3 := (hb2.cell (p := ⟨w.heap.size, 0, none⟩) HLT).trans bx1; have z4 := (hb2.frozen (p := ⟨w.heap.size, 0, none⟩) HLT).trans bx2)
    all_goals
      have hb3 : Below w1.heap.size w1 w2 := ⟨hb2.os, hb2.tape, hb2.output, hb2.size, hb2.block⟩
      have HB3 := Lib.hid hb3
      clear hb2 hb3
      exact pr_close (Ix := fun _ _ _ => False) (a := { tmps := #[], defers := [] }) HI.out hb1 HB3.out hW3 hpl (by omega) HSN.out
  case done =>
    rintro D xs W hD hxs hI hK
    obtain ⟨cx1, cx2⟩ := hI.box.cell
    have HXS := Lib.hid hxs
    have HI := Lib.hid hI
    have HK := Lib.hid hK
    have hDW : D < W.heap.size := (Array.getElem?_eq_some_iff.1 hK).1
    have hbs := hI.below.size
    clear hxs hI hK
    obtain ⟨px, hpx⟩ : ∃ b, b = ba (parts xs) := ⟨_, rfl⟩
    rw [← hpx] at cx1
    have HT := Lib.hid (trimLeft_call px)
    have hpr : ba (stripZ px.data.toList) = ba (decT (val l)) := by rw [hpx, ba_list, HXS.out, printed]
    rw [hpr] at HT
    clear hpx hpr
    obtain ⟨st, hst⟩ : ∃ b, b = ba (decT (val l)) := ⟨_, rfl⟩
    rw [← hst] at HT
    have HST := Lib.hid hst
    clear hst
    have hfin : ∀ (s : ByteArray) (W3 : World), Below w.heap.size w W3 → W3.heap[D]? = some (.deferred (some [])) → Below w.heap.size w (W3.putObj D (.deferred none)) := fun s W3 h1 h2 =>
      h1.grown (grownBy_putObj' W3 D (.deferred none)) h1.size (fun k e => by injection e with e; omega)
    have HFIN := Lib.hid hfin
    clear hfin
    by_cases hv : val l = 0
    · have he : st.toList = [] := by rw [HST.out, ba_toList, hv, decT_zero]
      have he2 : st.toList.isEmpty = true := by rw [he]; rfl
      gi_wp2_with (refine ⟨trivial, ?_⟩; gi_at_call 18; refine (callsIn_wide.2 (HT.out _)).mono ?_; rintro e w' ⟨rfl, rfl⟩)
      have hK2 : (w'.setCell ⟨w.heap.size, 0, none⟩ (.string st)).heap[D]? = some (.deferred (some [])) := (Below.heap_setCell _ _ _ _ (by show D ≠ w.heap.size; omega)).trans HK.out
      refine ⟨by simp, .inl ⟨_, _, rfl, run_takeDeferred hK2, ?_⟩⟩
      refine ⟨.string ⟨#[48]⟩, by simp [results, Tryz.results8, go_sem], ?_, HFIN.out st _ (HI.out.below.setCell (Nat.le_refl _) _) hK2⟩
      rw [hv]; rfl
    · have hne := decT_ne (v := val l) (by omega)
      have he : ¬ st.toList = [] := by rw [HST.out, ba_toList]; exact hne
      have he2 : st.toList.isEmpty = false := by simpa using he
      have ht : text (val l) = decT (val l) := by unfold text; rw [if_neg hv]
      have HTT := Lib.hid ht
      clear hne ht
      gi_wp2_with (refine ⟨trivial, ?_⟩; gi_at_call 18; refine (callsIn_wide.2 (HT.out _)).mono ?_; rintro e w' ⟨rfl, rfl⟩)
      have hK2 : (w'.setCell ⟨w.heap.size, 0, none⟩ (.string st)).heap[D]? = some (.deferred (some [])) := (Below.heap_setCell _ _ _ _ (by show D ≠ w.heap.size; omega)).trans HK.out
      refine ⟨by simp, .inl ⟨_, _, rfl, run_takeDeferred hK2, ?_⟩⟩
      refine ⟨.string st, by simp [results, Tryz.results8, go_sem], ?_, HFIN.out st _ (HI.out.below.setCell (Nat.le_refl _) _) hK2⟩
      rw [HTT.out, ← HST.out]
  case stop =>
    rintro D c pre W _ _ h
    exact h.elim
end Go.Proofs.YtgdlkpfkaehebaaGreatDoor.Pr
