/- digit.Parse: which natural a text is. -/
import Derived.Test.YtgdlkpfkaehebaaGreatDoorFr
import Derived.Test.YtgdlkpfkaehebaaGreatDoorDstrs
import Derived.Deep.RegionLaw
set_option linter.unusedVariables false
namespace Go.Proofs.YtgdlkpfkaehebaaGreatDoor.Pz
open Go Go.RowKit Go.Proofs.YtgdlkpfkaehebaaGreatDoorW.PrintWords Go.Proofs.YtgdlkpfkaehebaaGreatDoorW.PrintLast Go.Proofs.YtgdlkpfkaehebaaGreatDoorW.PrintMore
open Nt Lm Bs Ad Fr

/-! ### plain -/
def okS (t : Bs) : Bool := !t.isEmpty && t.all isDig && !(decide (1 < t.length) && (t.head? == some 48))
def parseE (t : Bs) : Int := if okS t = false then 40 else if 200 < t.length then 21 else fromE 10000000000 (chunks t)
def parseL (t : Bs) : List Nat := if okS t = false then [] else if 200 < t.length then [] else fromL 10000000000 (chunks t)
def digs10 : Bs := [48, 49, 50, 51, 52, 53, 54, 55, 56, 57]
theorem mem_digs (c : UInt8) : digs10.contains c = isDig c := by
  rw [Bool.eq_iff_iff]
  simp [digs10, isDig, ← UInt8.toNat_inj]
  omega
theorem drop_nil (p : UInt8 → Bool) : ∀ (l : Bs), l.dropWhile p = [] ↔ ∀ x ∈ l, p x = true := by
  intro l
  induction l with
  | nil => simp
  | cons x l ih =>
    rw [List.dropWhile_cons]
    by_cases h : p x = true
    · rw [if_pos h, ih]
      constructor
      · intro h2 y hy
        rcases List.mem_cons.1 hy with rfl | hy
        · exact h
        · exact h2 y hy
      · intro h2 y hy; exact h2 y (List.mem_cons_of_mem _ hy)
    · rw [if_neg h]
      constructor
      · intro h2; cases h2
      · intro h2; exact absurd (h2 x (List.mem_cons_self ..)) h
theorem drop_mem (p : UInt8 → Bool) : ∀ (l : Bs), (∀ x ∈ l.dropWhile p, p x = true) → ∀ x ∈ l, p x = true := by
  intro l
  induction l with
  | nil => intro _ x hx; cases hx
  | cons y l ih =>
    intro h x hx
    rw [List.dropWhile_cons] at h
    by_cases hy : p y = true
    · rw [if_pos hy] at h
      rcases List.mem_cons.1 hx with rfl | hx
      · exact hy
      · exact ih h x hx
    · rw [if_neg hy] at h; exact absurd (h y (List.mem_cons_self ..)) hy
theorem mem_drop (p : UInt8 → Bool) : ∀ (l : Bs) (x : UInt8), x ∈ l.dropWhile p → x ∈ l := by
  intro l
  induction l with
  | nil => intro x hx; exact hx
  | cons y l ih =>
    intro x hx
    rw [List.dropWhile_cons] at hx
    split at hx
    · exact List.mem_cons_of_mem _ (ih x hx)
    · exact hx
theorem trim_nil (t : Bs) : Lib.trimS t digs10 = [] ↔ t.all isDig = true := by
  unfold Lib.trimS Lib.trimLeftS Lib.trimRightS
  have e : (fun x => digs10.contains x) = isDig := funext mem_digs
  simp only [e]
  rw [drop_nil, List.all_eq_true]
  constructor
  · intro h x hx
    exact drop_mem isDig t.reverse (fun y hy => h y (List.mem_reverse.2 hy)) x (List.mem_reverse.2 hx)
  · intro h x hx
    exact h x (List.mem_reverse.1 (mem_drop isDig _ x (List.mem_reverse.1 hx)))
theorem uint_ok : ∀ (t : Bs) (acc : Nat), t.all isDig = true → (acc + 1) * 10 ^ t.length ≤ 1844674407370955161 * 10 → Lib.parseUintM (2 ^ 64 - 1) acc t = .ok (decF acc t) := by
  intro t
  induction t with
  | nil => intro acc _ _; rfl
  | cons c t ih =>
    intro acc h hb
    rw [List.all_cons, Bool.and_eq_true] at h
    have hc : 48 ≤ c.toNat ∧ c.toNat ≤ 57 := by have := h.1; simp [isDig] at this; exact this
    have hp : 1 ≤ 10 ^ t.length := Nat.pow_pos (by omega)
    rw [List.length_cons, Nat.pow_succ, Nat.mul_comm (10 ^ t.length) 10, ← Nat.mul_assoc] at hb
    have h10 : (acc + 1) * 10 ≤ 1844674407370955161 * 10 := Nat.le_trans (Nat.le_mul_of_pos_right _ hp) hb
    unfold Lib.parseUintM
    rw [if_pos hc, if_neg (by omega), if_neg (by omega)]
    have h2 := ih (acc * 10 + (c.toNat - 48)) h.2 (Nat.le_trans (Nat.mul_le_mul_right _ (by omega)) hb)
    rw [h2]
    show _ = Lib.NumEnd.ok (decF (10 * acc + (c.toNat - 48)) t)
    rw [Nat.mul_comm acc 10]
theorem uint10 {t : Bs} (h : t.all isDig = true) (h0 : t ≠ []) (h10 : t.length ≤ 10) : Lib.parseUintB 64 t = .ok (decV t) := by
  unfold Lib.parseUintB
  rw [if_neg h0]
  refine uint_ok t 0 h ?_
  have : 10 ^ t.length ≤ 10 ^ 10 := Nat.pow_le_pow_right (by omega) h10
  omega

/-! ### the walk -/
theorem info116 : (Tryz.prog.info? 47).map (fun i => (i.zero, i.size)) = some (some (.agg (Array.replicate 256 (.bool false))), 256) := by kernel_rfl
theorem trim_call' (s : ByteArray) (w : World) (hs : s.size ≤ 9223372036854775807) :
    Calls Tryz.prog 9 #[.string s, .string ⟨#[48, 49, 50, 51, 52, 53, 54, 55, 56, 57]⟩] w fun e w' => e = .returned (.string ⟨(Lib.trimS s.data.toList digs10).toArray⟩) ∧ Below w.heap.size w w' :=
  Any.strings_Trim_laid lays160 info116 s ⟨#[48, 49, 50, 51, 52, 53, 54, 55, 56, 57]⟩ w hs (by decide) (ascii_of_all (by decide))
theorem uint_call (s : ByteArray) (w : World) (h : s.data.toList.all isDig = true) (h0 : s.data.toList ≠ []) (h10 : s.data.toList.length ≤ 10) :
    Calls Tryz.prog 10 #[.string s, .int .i64 10, .int .i64 64] w fun e w' => e = .returned (.tuple #[.int .u64 ((decV s.data.toList : Nat) : Int), .nilIface]) ∧ Below w.heap.size w w' := by
  have hsz : s.size = s.data.toList.length := by rw [Array.length_toList]; rfl
  refine (Any.strconv_ParseUint_10_at64_ok laysPu14 s (by omega) (decV s.data.toList) (uint10 h h0 h10) w).mono fun e w' ⟨h1, h2⟩ => ⟨h1, ?_⟩
  rcases h2 with rfl | rfl
  · exact Below.refl _ _
  · exact bytes_below (Below.refl _ _) (Nat.le_refl _) _ _

theorem own_nums {W : World} {lo : Nat} {v : Value} {l : List Nat} (h : Nw W lo v l) : W.ownsRow lo 31 1 v l.length (encs (Value.int .u64) (ints l)) := by
  have := Kd.own_of_R h
  rw [ints_len] at this
  exact this
theorem nums_own {W : World} {lo n : Nat} {v : Value} {l : List Nat} {y : Nat} (hn : n = l.length + 1) (h : W.ownsRow lo 31 1 v n (encs (Value.int .u64) (ints l) ++ [.int .u64 (y : Int)])) : Nw W lo v (l ++ [y]) := by
  refine Kd.R_of_own ?_ (fun _ _ => trivial)
  have e : encs (Value.int .u64) (ints (l ++ [y])) = encs (Value.int .u64) (ints l) ++ [.int .u64 (y : Int)] := by rw [ints_app]; simp [encs, ints]
  rw [e, ints_len, List.length_append]
  subst hn
  exact h
theorem drop_list (t : ByteArray) (k : Nat) : (t.extract k t.size).data.toList = t.data.toList.drop k := by
  have hsz : t.size = t.data.toList.length := by rw [Array.length_toList]; rfl
  rw [ByteArray.data_extract, Array.toList_extract, List.extract_eq_take_drop, hsz]
  exact List.take_of_length_le (by rw [List.length_drop]; exact Nat.le_refl _)
theorem take_list (t : ByteArray) (k : Nat) : (t.extract 0 k).data.toList = t.data.toList.take k := by
  rw [ByteArray.data_extract, Array.toList_extract]
  simp [List.extract_eq_take_drop]

set_option maxHeartbeats 4000000 in
set_option maxRecDepth 100000 in
theorem parse_bad (s : ByteArray) (w : World) (hs : s.size ≤ 4611686018427387904) (hbad : okS s.data.toList = false) :
    Calls Tryz.prog 5 #[.string s] w fun e w' => e = .returned (.tuple #[.slice none 0 0, .int .i64 40]) ∧ Below w.heap.size w w' := by
  have hsz : s.size = s.data.toList.length := by rw [Array.length_toList]; rfl
  have htl : s.toList = s.data.toList := ByteArray.toList_eq ..
  have HT := Lib.hid (trim_call' s w (by omega))
  by_cases h0 : s.data.toList = []
  · have e1 : s.toList = [] := by rw [htl, h0]
    have e2 : s.toList.isEmpty = true := by rw [e1]; rfl
    clear hbad h0 htl hsz
    go_enter Tryz.func5, Tryz.ntmps5
    go_wp2
    go_ret2
    exact ⟨rfl, Below.refl _ _⟩
  · have e1 : ¬ s.toList = [] := by rw [htl]; exact h0
    have e2 : s.toList.isEmpty = false := by simpa using e1
    obtain ⟨ts, hts⟩ : ∃ t : ByteArray, t = ⟨(Lib.trimS s.data.toList digs10).toArray⟩ := ⟨_, rfl⟩
    rw [← hts] at HT
    have htsl : ts.toList = Lib.trimS s.data.toList digs10 := by rw [ByteArray.toList_eq, hts]
    by_cases hd : s.data.toList.all isDig = true
    · have e3 : ts.toList = [] := by rw [htsl, trim_nil]; exact hd
      have e4 : ts.toList.isEmpty = true := by rw [e3]; rfl
      have h1 : 1 < s.data.toList.length ∧ s.data.toList.head? = some 48 := by
        unfold okS at hbad
        rw [hd] at hbad
        have : s.data.toList.isEmpty = false := by simpa using h0
        rw [this] at hbad
        simpa using hbad
      have hs1 : 1 < s.size := by omega
      have hc : ∀ h : 0 < s.size, ((s[0]'h).toNat : Int) = 48 := by
        intro h
        have h2 := h1.2
        rw [List.head?_eq_getElem?, List.getElem?_eq_getElem (by omega)] at h2
        have h3 := Option.some.inj h2
        have h4 : (s[0]'h) = s.data.toList[0]'(by omega) := rfl
        rw [h4, h3]
        rfl
      have hpos : 0 < s.size := by omega
      clear hbad h0 hd h1 hts htsl htl hsz
      go_enter Tryz.func5, Tryz.ntmps5
      go_wp2_with (go_at_call 9; refine (HT.out).mono ?_; rintro e w' ⟨rfl, hb⟩)
      go_ret2
      exact ⟨rfl, hb⟩
    · have e3 : ¬ ts.toList = [] := by rw [htsl, trim_nil]; exact hd
      have e4 : ts.toList.isEmpty = false := by simpa using e3
      clear hbad h0 hd hts htsl htl hsz
      go_enter Tryz.func5, Tryz.ntmps5
      go_wp2_with (go_at_call 9; refine (HT.out).mono ?_; rintro e w' ⟨rfl, hb⟩)
      go_ret2
      exact ⟨rfl, hb⟩

theorem ok_facts {s : ByteArray} (hok : okS s.data.toList = true) : s.data.toList ≠ [] ∧ s.data.toList.all isDig = true ∧ (1 < s.data.toList.length → s.data.toList.head? ≠ some 48) := by
  unfold okS at hok
  simp only [Bool.and_eq_true, Bool.not_eq_true', Bool.and_eq_false_iff, decide_eq_false_iff_not] at hok
  obtain ⟨⟨h1, h2⟩, h3⟩ := hok
  refine ⟨by intro e; rw [e] at h1; simp at h1, h2, fun h => ?_⟩
  rcases h3 with h3 | h3
  · exact absurd h h3
  · intro e; rw [e] at h3; simp at h3

/-- between two parts -/
structure PaAt (w : World) (ch : List Nat) (n : Nat) (t : ByteArray) (pre : List Nat) (v : Value) (W : World) : Prop where
  row : Nw W w.heap.size v pre
  eq : ch = pre ++ chunks t.data.toList
  dig : t.data.toList.all isDig = true
  len : pre.length + t.size ≤ n
  below : Below w.heap.size w W
def strSize : Value → Nat
  | .string t => t.size
  | _ => 0

set_option maxHeartbeats 4000000 in
set_option maxRecDepth 100000 in
theorem parse_ok (s : ByteArray) (w : World) (hs : s.size ≤ 4611686018427387904) (hok : okS s.data.toList = true) :
    Calls Tryz.prog 5 #[.string s] w fun e w' => ∃ v, e = .returned (.tuple #[v, .int .i64 (parseE s.data.toList)]) ∧ Nw w' w.heap.size v (parseL s.data.toList) ∧ Below w.heap.size w w' := by
  have hsz : s.size = s.data.toList.length := by rw [Array.length_toList]; rfl
  have htl : s.toList = s.data.toList := ByteArray.toList_eq ..
  have HT := Lib.hid (trim_call' s w (by omega))
  obtain ⟨h0, hd, h48⟩ := ok_facts hok
  have e1 : ¬ s.toList = [] := by rw [htl]; exact h0
  have e2 : s.toList.isEmpty = false := by simpa using e1
  obtain ⟨ts, hts⟩ : ∃ t : ByteArray, t = ⟨(Lib.trimS s.data.toList digs10).toArray⟩ := ⟨_, rfl⟩
  rw [← hts] at HT
  have htsl : ts.toList = Lib.trimS s.data.toList digs10 := by rw [ByteArray.toList_eq, hts]
  have e3 : ts.toList = [] := by rw [htsl, trim_nil]; exact hd
  have e4 : ts.toList.isEmpty = true := by rw [e3]; rfl
  have hpos : 0 < s.size := by
    rw [hsz]
    cases hl : s.data.toList with
    | nil => exact absurd hl h0
    | cons x l => simp
  have hc : 1 < s.size → ∀ h : 0 < s.size, ((((s[0]'h).toNat : Int) == 48) = false) := by
    intro h1 h
    have h2 := h48 (by omega)
    rw [List.head?_eq_getElem?, List.getElem?_eq_getElem (by omega)] at h2
    have h4 : (s[0]'h) = s.data.toList[0]'(by omega) := rfl
    rw [beq_eq_false_iff_ne]
    intro h5
    refine h2 (congrArg some ?_)
    rw [← h4]
    apply UInt8.toNat_inj.1
    have : (s[0]'h).toNat = 48 := by omega
    rw [this]; rfl
  have HOK := Lib.hid hok
  have HD := Lib.hid hd
  have HSZ := Lib.hid hsz
  have HC := Lib.hid hc
  clear hts htsl htl hsz h0 hd h48 hok hc
  by_cases hbig : 200 < s.size
  · have hp : parseE s.data.toList = 21 ∧ parseL s.data.toList = [] := by
      simp [parseE, parseL, HOK.out, ← HSZ.out, hbig]
    rw [hp.1, hp.2]
    have hc := HC.out (by omega)
    have hs1 : 1 < s.size := by omega
    clear hp
    go_enter Tryz.func5, Tryz.ntmps5
    go_wp2_with (go_at_call 9; refine (HT.out).mono ?_; rintro e w' ⟨rfl, hb⟩)
    go_ret2
    exact ⟨_, rfl, Nw.nil _ _, hb⟩
  · have hp : parseE s.data.toList = fromE 10000000000 (chunks s.data.toList) ∧ parseL s.data.toList = fromL 10000000000 (chunks s.data.toList) := by
      simp [parseE, parseL, HOK.out, ← HSZ.out, hbig]
    rw [hp.1, hp.2]
    clear hp
    obtain ⟨ch, hch⟩ : ∃ c, c = chunks s.data.toList := ⟨_, rfl⟩
    rw [← hch]
    have hchd := (chunks_spec _ s.data.toList rfl HD.out).2
    rw [← hch] at hchd
    have HCHD := Lib.hid hchd
    have HCH := Lib.hid hch
    clear hch hchd
    have hsmall : s.size ≤ 200 := by omega
    have hpre : (1 < s.size ∧ (∀ h : 0 < s.size, ((((s[0]'h).toNat : Int) == 48) = false))) ∨ ¬ 1 < s.size := by
      by_cases h : 1 < s.size
      · exact .inl ⟨h, HC.out h⟩
      · exact .inr h
    clear hbig
    rcases hpre with ⟨hs1, hc⟩ | hs1
    all_goals
      go_enter Tryz.func5, Tryz.ntmps5
      go_wp2_with (go_at_call 9; refine (HT.out).mono ?_; rintro e w' ⟨rfl, hb⟩)
      have hp0 : PaAt w ch s.size s [] (.slice none 0 0) w' := ⟨Nw.nil _ _, by rw [HCH.out]; rfl, HD.out, by simp, hb⟩
      have HP0 := Lib.hid hp0
      clear hp0 e1 e2 e3 e4 hb
      go_loopw [0, 4] (fun v0 v4 wr => ∃ (t : ByteArray) (pre : List Nat), v0 = .string t ∧ Hid (PaAt w ch s.size t pre v4 wr)) (fun v0 _ _ => strSize v0)
      case atStart => exact ⟨s, [], rfl, HP0⟩
      case round =>
        obtain ⟨t, pre, rfl, hA⟩ := hrel
        obtain ⟨A5, c5, e5, hc5, hr5⟩ := hA.out.row.open
        subst e5
        have htsz : t.size = t.data.toList.length := by rw [Array.length_toList]; rfl
        have hsum := hA.out.len
        by_cases ht0 : t.size = 0
        · have htn : t.data.toList = [] := List.eq_nil_of_length_eq_zero (by omega)
          have hpe : pre = ch := by
            have := hA.out.eq
            rw [htn, chunks_nil, List.append_nil] at this
            exact this.symm
          have hfr := from_call A5 c5 pre 10000000000 wr hr5 hc5 (by omega) (by omega) (by omega) (by rw [hpe]; exact HCHD.out)
          have HFR := Lib.hid hfr
          have HPE := Lib.hid hpe
          clear hfr hr5 htn htsz hpe
          go_wp2_with (go_at_call 11; refine (HFR.out).mono ?_; rintro e w2 ⟨v, rfl, hv, hb2⟩)
          go_ret2
          rw [← HPE.out]
          exact ⟨_, rfl, hv.lower hA.out.below.size, hA.out.below.trans (hb2.mono hA.out.below.size)⟩
        · obtain ⟨k, hk⟩ : ∃ k, k = t.size - 10 := ⟨_, rfl⟩
          have hkw : IntKind.i64.wrap ((t.size : Int) - 10) = (t.size : Int) - 10 := IntWalk.i64_in _ (by omega)
          have hkm : max ((t.size : Int) - 10) 0 = (k : Int) := by omega
          have hkt : k ≤ t.size := by omega
          have hne : t.data.toList ≠ [] := fun e => by rw [e, List.length_nil] at htsz; exact ht0 htsz
          have hdl := drop_list t k
          have htk := take_list t k
          obtain ⟨td, htd⟩ : ∃ x, x = t.extract k t.size := ⟨_, rfl⟩
          rw [← htd] at hdl
          have hal := all_take hA.out.dig k
          have hui := fun w => uint_call td w (by rw [hdl]; exact hal.2) (by rw [hdl]; intro e; have := congrArg List.length e; rw [List.length_drop, List.length_nil] at this; omega) (by rw [hdl, List.length_drop]; omega)
          obtain ⟨dv, hdv⟩ : ∃ n, n = decV td.data.toList := ⟨_, rfl⟩
          rw [← hdv] at hui
          have hch := chunks_pos hne
          rw [← htsz, ← hk, ← hdl, ← hdv, ← htk] at hch
          have HUI := Lib.hid hui
          have HCC := Lib.hid hch
          have HAL := Lib.hid hal
          have HTD := Lib.hid htd
          have HTK := Lib.hid htk
          have htpos : 0 < t.size := by omega
          have HKK := Lib.hid hk
          clear hui hch hal htk hdl hdv hne ht0 hk hr5 htd htsz
          rw [HTD.out] at HUI
          go_wp2_with (go_at_call 10; refine (HUI.out _).mono ?_; rintro e w2 ⟨rfl, hb2⟩)
          have hrow2 := hA.out.row.below hb2
          have hbel2 := hA.out.below.trans (hb2.mono hA.out.below.size)
          have hown2 := (own_nums hrow2).alloc (.cells #[.int .u64 (dv : Int)] 31)
          have HOWN := Lib.hid hown2
          have HBEL := Lib.hid hbel2
          have hszw : w.heap.size ≤ w2.heap.size := hbel2.size
          have hplen : pre.length ≤ 1000000 := by omega
          obtain ⟨i0, hi, hz0, hz1, hz2⟩ := info_parts Cl.infoU
          have HI := Lib.hid hi
          clear hb2 hrow2 hbel2 hown2 hi
          go_region_law (refine step_append_lies _ (by rfl) _ _ 23 (by rfl) w.heap.size 31 i0 (.int .u64 0) 1 8 Tryz.underlying23 HI.out hz0 hz1 hz2 rfl (by omega) (.slice A5 pre.length c5) pre.length _ (by rfl) HOWN.out ⟨w2.heap.size, 0, none⟩ 1 1 [.int .u64 (dv : Int)] (by rfl) (by rfl) (World.news_of_block (cs := #[.int .u64 (dv : Int)]) (t := 31) (fr := (0, 0)) (heap_alloc_new w2 _)) (by simp [Value.oneCell']) (by omega) (by unfold maxLen; omega) (by omega) (by simp; omega) (w2.heap.size + 1) (by simp) ?_; intro g1 cap1 w3 hown3 hgrow3 hat3 hlt3)
          have hg3 : (w2.alloc (.cells #[.int .u64 (dv : Int)] 31)).grownBy w3 (Value.slice A5 pre.length c5).ownBlock := ⟨hgrow3.os, hgrow3.tape, hgrow3.output, hgrow3.size, hgrow3.block⟩
          have hnext : PaAt w ch s.size (t.extract 0 k) (pre ++ [dv]) (.slice (some ⟨g1, 0, none⟩) (pre.length + 1) cap1) w3 := by
            refine ⟨nums_own rfl hown3, ?_, ?_, ?_, (HBEL.out.alloc hszw _).grown hg3 (by simp; omega) (fun q e => own_base HOWN.out q e)⟩
            · rw [hA.out.eq, HCC.out, List.append_assoc]; rfl
            · rw [HTK.out]; exact HAL.out.1
            · have h1 := HKK.out
              rw [List.length_append, ByteArray.size_extract]
              simp
              omega
          have HNEXT := Lib.hid hnext
          have hsz0 : (t.extract 0 k).size < t.size := by
            have h1 := HKK.out
            rw [ByteArray.size_extract]
            omega
          clear hg3 hnext hown3 hgrow3 hat3 hlt3
          go_wp2_with fail
          go_roundw
          case rel => ((repeat apply Exists.intro); exact ⟨⟨t.extract 0 k, pre ++ [dv], rfl, HNEXT⟩, rfl⟩)
          case measure => exact hsz0
end Go.Proofs.YtgdlkpfkaehebaaGreatDoor.Pz
