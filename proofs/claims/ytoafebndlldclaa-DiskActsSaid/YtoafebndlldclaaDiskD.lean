/- The calls of the disk's Sync are proved: all that was written is settled, in whatever order the map is ranged over. -/
import Derived.Test.YtoafebndlldclaaDiskC
namespace Go.Proofs.Ytoafebndlldclaa.Dk
open Go Go.RowKit Go.ChangeMaps Go.MapKept
variable {W : World} {b g bm : Nat} {D : DS}

section
variable {P : Program} {w : World} {ops : Array Oper} {rest : List Oper} {o : Oper} {a : Act} {Q : Exit → Act → World → Prop}
/-- a round of a range over what was written -/
theorem wpList_next_disk (hg : o.guard = none) (it : Operand) (hop : o.op = Op.next it false) (k : TypeId) (K : Maps.Keyed P k) (hk : P.underlying k = some (.int .i64)) (bm r n : Nat) (news : List (Option Bs)) (left : Lit → Bool) (cnt : Nat)
    (hit : a.eval it = .pointer (some ⟨r, 0, none⟩)) (h : w.ranges P k secElem bm r n (datum news) left cnt)
    (hDone : cnt = 0 → (∀ kl, left kl = false) → wpList P ops Q rest (a.put o.dst (.tuple #[.bool false])) w)
    (hMore : ∀ (i : Nat) (c : Bs) (w' : World) (cnt' : Nat), c.length = 64 → news[i]? = some (some c) → left (.int .i64 i) = true → w'.ranges P k secElem bm r n (datum news) (fun z => left z && !z.sameKey (.int .i64 i)) cnt' → cnt' < cnt → w.grownBy w' (some r) → w'.heap.size = w.heap.size →
      (Instr.entry (.pointer (some ⟨r, 0, none⟩))).run P w' = .ok (.tuple #[.int .i64 i, .agg (Lib.byteCells c).toArray]) w' → wpList P ops Q rest (a.put o.dst (.tuple #[.bool true, .int .i64 i, .agg (Lib.byteCells c).toArray])) w') :
    wpList P ops Q (o :: rest) a w := by
  refine wpList_next_ranges w hg it hop k K secElem (Value.int .i64) (fun l : Bs => .agg (Lib.byteCells l).toArray) (fun key kl hkey => by obtain ⟨x, rfl, _⟩ := Maps.keyOf_int_inv hk hkey; exact ⟨x, rfl⟩)
    (fun v y hv => by obtain ⟨c, _, rfl, _⟩ := secElem_inv hv; exact ⟨c, rfl⟩) bm r n _ left cnt hit h hDone ?_
  intro x c kl y w' cnt' hkey hlk hv hat hrg hlt hgr hsz hen
  obtain ⟨x', ex, rfl, _⟩ := Maps.keyOf_int_inv hk hkey
  cases ex
  obtain ⟨c', hc, ec, rfl⟩ := secElem_inv hv
  obtain rfl := agg_inj ec
  obtain ⟨i, rfl, hi⟩ := datum_hit hat
  exact hMore i c w' cnt' hc hi hlk hrg hlt hgr hsz hen
end

/-- the rows, as far as they are settled -/
structure Settled (D : DS) (left : Lit → Bool) (rows : List Bs) : Prop where
  len : rows.length = D.olds.length
  at_ : ∀ i, i < rows.length → rows[i]? = some (if left (.int .i64 i) = true then D.olds.getD i [] else sect D i)

theorem Settled.start (D : DS) : Settled D (Maps.has (datum D.news)) D.olds := by
  refine ⟨rfl, fun i hi => ?_⟩
  rw [datum_has, List.getElem?_eq_getElem hi]
  have e : D.olds.getD i [] = D.olds[i] := by rw [List.getD_eq_getElem?_getD, List.getElem?_eq_getElem hi]; rfl
  unfold sect
  rw [e]
  cases D.news.getD i none <;> simp [laid]

theorem Settled.step {D : DS} {left : Lit → Bool} {rows : List Bs} (h : Settled D left rows) {i : Nat} {c : Bs} (hi : D.news[i]? = some (some c)) : Settled D (fun z => left z && !z.sameKey (.int .i64 i)) (rows.set i c) := by
  refine ⟨by simp [h.len], fun j hj => ?_⟩
  rw [List.length_set] at hj
  rw [List.getElem?_set, sameKey_int]
  by_cases e : i = j
  · subst e
    rw [if_pos rfl, if_pos hj]
    simp [sect, laid, List.getD_eq_getElem?_getD, hi]
  · rw [if_neg e, h.at_ j hj]
    have : ((j : Int) = (i : Int)) = False := by simp; omega
    simp [this]

theorem Settled.done {D : DS} (hD : D.Ok) {left : Lit → Bool} {rows : List Bs} (h : Settled D left rows) (hl : ∀ kl, left kl = false) : rows = (settle D).olds := by
  apply List.ext_getElem?
  intro i
  by_cases hi : i < rows.length
  · rw [h.at_ i hi, hl]
    have h1 : i < D.olds.length := by rw [← h.len]; exact hi
    have h2 : i < D.news.length := by rw [hD.len]; exact h1
    simp [settle, sect, List.getElem?_zipWith, List.getD_eq_getElem?_getD, List.getElem?_eq_getElem h1, List.getElem?_eq_getElem h2]
  · rw [List.getElem?_eq_none (by omega), List.getElem?_eq_none (by simp [settle, hD.len]; rw [← h.len]; omega)]

def SyncInv (b g bm r : Nat) (D : DS) (W wr : World) : Prop := ∃ (left : Lit → Bool) (cnt : Nat) (rows : List Bs), wr.ranges Try.prog 3 secElem bm r (Maps.size (datum D.news)) (datum D.news) left cnt ∧ IsDisk wr b g bm { D with olds := rows } ∧ Settled D left rows ∧ Kp (Foot b g bm) W wr

set_option maxRecDepth 100000 in
set_option maxHeartbeats 2000000 in
theorem settle_any (h : IsDisk W b g bm D) (db : Nat) (hdb : W.cell? ⟨db, 0, none⟩ = some (.pointer (some ⟨b, 0, none⟩))) (hne : ¬ Foot b g bm db) :
    Calls Try.prog 31 #[.pointer (some ⟨db, 0, none⟩)] W fun e w' => e = .returned (.tuple #[]) ∧ IsDisk w' b g bm (settle D) ∧ Kp (Foot b g bm) W w' := by
  have c1 := h.c1
  have hmap := h.map
  have hdl := World.block_lt_of_cell? _ _ hdb
  have HH := Lib.hid h
  have HLT := Lib.hid (fun k (hk : Foot b g bm k) => h.lt hk)
  have HDB := Lib.hid hdb
  clear h
  go_enter Try.func31, Try.ntmps31
  go_wp2_with (at_range; refine wpList_range_own _ rfl _ 54 rfl 3 58 (Maps.int_keyed Try.underlying3) Try.underlying54 secElem bm _ _ rfl hmap ?_; intro w0 hrg0 hg0 hs0)
  try go_frame
  obtain ⟨r, hr⟩ : ∃ r, r = W.heap.size := ⟨_, rfl⟩
  rw [← hr] at hrg0 hs0 ⊢
  have HR := Lib.hid hr
  have HS0 := Lib.hid hs0
  clear hr hs0 hdb c1 hmap
  go_loopw [1, 2] (fun _ _ wr => SyncInv b g bm r D W wr)
    (fun _ _ wr => wr.rangeLeft bm r)
  case atStart =>
    have hk0 : Kp (Foot b g bm) W w0 := Kp.of_grown hg0 (fun k e => by cases e)
    exact ⟨_, _, D.olds, hrg0, HH.out.same hk0.size (fun k hk => hg0.block k (HLT.out k hk) (by simp)), Settled.start D, hk0⟩
  case round =>
    obtain ⟨left, cnt, rows, hrg, hid, hst, hkp⟩ := hrel
    have HID := Lib.hid hid
    have HST := Lib.hid hst
    have HKP := Lib.hid hkp
    clear hid hst hkp
    go_wp2_with (at_next; refine wpList_next_disk rfl _ rfl 3 (Maps.int_keyed Try.underlying3) Try.underlying3 bm r _ D.news _ _ rfl hrg ?_ ?_)
    · intro hc0 hl0
      have cd : wr.cell? ⟨db, 0, none⟩ = some (.pointer (some ⟨b, 0, none⟩)) := (HKP.out.cell (p := ⟨db, 0, none⟩) hdl hne).trans HDB.out
      have c1 := HID.out.c1
      have hown := HID.out.map
      have HL0 := Lib.hid hl0
      clear hl0 hc0
      go_wp2_with (refine wpList_clear_own rfl _ 54 rfl 3 58 Try.underlying54 secElem bm _ _ rfl hown ?_; intro w2 hown2 hturn2; have HO2 := Lib.hid hown2; have HT2 := Lib.hid hturn2; clear hown2 hturn2)
      go_end0
      have hrows := HST.out.done HH.out.ok HL0.out
      have ho2 := HO2.out
      rw [← datum_none D.news] at ho2
      have hfin := HID.out.turned HT2.out ho2 (by simpa [HST.out.len] using HH.out.ok.len) (fun s hs => by simp at hs)
      refine ⟨rfl, ?_, HKP.out.then (Kp.of_grown HT2.out.grown (fun k e => ?_))⟩
      · rw [hrows] at hfin
        exact hfin
      · cases e; exact .inl (.inr (.inr rfl))
    · intro i c w1 cnt1 hcl hci hli hrg1 hlt hg1 hs1 hen
      have hrW := HR.out
      have hnr : ¬ Foot b g bm r := fun hf => by have := HLT.out r hf; omega
      have hid1 : IsDisk w1 b g bm { D with olds := rows } := HID.out.same hg1.size (fun k hk => hg1.block k (HID.out.lt hk) (fun e => by cases e; exact hnr hk))
      have hkp1 : Kp (Foot b g bm) W w1 := HKP.out.then (Kp.of_grown hg1 (fun k e => by cases e; exact .inr (by omega)))
      have cd : w1.cell? ⟨db, 0, none⟩ = some (.pointer (some ⟨b, 0, none⟩)) := (hkp1.cell (p := ⟨db, 0, none⟩) hdl hne).trans HDB.out
      have c0 := (hid1.alloc (.cells (Lib.byteCells c).toArray 58)).c0
      have cd' : (w1.alloc (.cells (Lib.byteCells c).toArray 58)).cell? ⟨db, 0, none⟩ = some (.pointer (some ⟨b, 0, none⟩)) := by
        rw [World.cell?_alloc_lt _ _ _ (by have := hkp1.size; show db < _; omega)]; exact cd
      have hx' := Go.heap_alloc_new w1 (.cells (Lib.byteCells c).toArray 58)
      have hil : i < rows.length := by
        have := (List.getElem?_eq_some_iff.1 hci).1
        rw [HH.out.ok.len] at this; rw [HST.out.len]; exact this
      have hil2 : (i : Int) < (rows.length : Int) := by omega
      obtain ⟨o, ho⟩ : ∃ o, rows[i]? = some o := ⟨_, List.getElem?_eq_getElem hil⟩
      have HCL := Lib.hid hcl
      have HCI := Lib.hid hci
      have HX := Lib.hid hx'
      have HID1 := Lib.hid (hid1.alloc (.cells (Lib.byteCells c).toArray 58))
      have HRG1 := Lib.hid hrg1
      have HKP1 := Lib.hid (hkp1.alloc (.cells (Lib.byteCells c).toArray 58))
      have HO := Lib.hid ho
      have HRGL := Lib.hid hrg
      have HW1 := Lib.hid hs1
      have HFIT : Hid (i * 64 + 64 ≤ (Lib.byteCells rows.flatten).toArray.size) := by
        show _ ≤ _
        have : rows.flatten.length = rows.length * 64 := flat_length hid1.ok.old
        simp only [List.size_toArray, Lib.byteCells_length, this]
        omega
      have hcs : (Lib.byteCells c).length = 64 := by rw [Lib.byteCells_length]; exact hcl
      have HCS := Lib.hid hcs
      clear hcl hci hx' hid1 hrg1 hkp1 ho hrg hli hs1 hcs hrW hil
      go_wp2_with (first
        | (refine wpList_alloc_agg rfl 58 rfl _ zero_info ?_)
        | (refine wpList_store_new rfl 58 _ _ rfl w1 (Lib.byteCells (zeros 64)) 58 rfl rfl (Lib.byteCells c) rfl (by rw [HCS.out]; rfl) (Lib.byteCells_one _) (by rw [HCS.out]; exact size_info) ?_))
      refine region_tail 7 (by kernel_rfl) (by kernel_rfl) ?_
      simp only [List.take_succ_cons, List.take_zero, List.drop_succ_cons, List.drop_zero]
      repeat (first
        | (refine wpStill_step (fun K hK => still_load_row rfl 58 _ rfl w1.heap.size 0 rfl 58 _ _ _ (Lib.byteCells c) HX.out (fun j v hv => by rw [Nat.zero_add]; simpa using hv) Try.underlying58 rfl (by rw [HCS.out]; exact size_info) (hK _ ?_)))
        | still_step)
      refine wpStill_nil ?_
      try go_frame
      clear hK K
      refine wpList_store_part rfl 58 _ _ rfl g (i * 64) rfl (Lib.byteCells c) rfl 58 _ HID1.out.drew.row (by rw [HCS.out]; exact HFIT.out) (Lib.byteCells_one _) (by rw [HCS.out]; exact size_info) ?_
      have hol : o.length = 64 := HID1.out.ok.old o (List.mem_of_getElem? HO.out)
      have hset := HID1.out.drew.rowSet HO.out (x := c) (by rw [HCL.out]; exact Nat.le_refl _)
      rw [List.drop_eq_nil_of_le (by rw [hol, HCL.out]; exact Nat.le_refl _), List.append_nil] at hset
      have hgs : (w1.alloc (.cells (Lib.byteCells c).toArray 58)).drew.grownBy (((w1.alloc (.cells (Lib.byteCells c).toArray 58)).drew).setRow g (splice (Lib.byteCells rows.flatten).toArray.toList (i * 64) (Lib.byteCells c)).toArray) (some g) :=
        ⟨rfl, rfl, rfl, by simp [World.setRow], fun k _ hk => setRow_other _ g k _ (fun e => hk (by rw [e]))⟩
      have hrg2 := ((HRG1.out.alloc (.cells (Lib.byteCells c).toArray 58)).kept (w' := (w1.alloc (.cells (Lib.byteCells c).toArray 58)).drew) (row := none) ⟨rfl, rfl, rfl, Nat.le_refl _, fun _ _ _ => rfl⟩ (by simp) (by simp)).kept hgs (fun e => HID1.out.mg (Option.some.inj e)) (fun e => hnr (.inr (.inl (Option.some.inj e))))
      have hkp2 := HKP1.out.drew.setRow (g := g) (.inr (.inl rfl)) (splice (Lib.byteCells rows.flatten).toArray.toList (i * 64) (Lib.byteCells c)).toArray
      have HS2 := Lib.hid hset
      have HR2 := Lib.hid hrg2
      have HK2 := Lib.hid hkp2
      clear hset hrg2 hkp2 hgs
      generalize ((w1.alloc (.cells (Lib.byteCells c).toArray 58)).drew).setRow g (splice (Lib.byteCells rows.flatten).toArray.toList (i * 64) (Lib.byteCells c)).toArray = w3 at *
      go_wp2
      go_roundw
      case rel => exact ⟨_, cnt1, _, HR2.out, HS2.out, HST.out.step HCI.out, HK2.out⟩
      case measure => rw [HR2.out.left_eq, HRGL.out.left_eq]; exact hlt

theorem run_settle (cap : Array Value) (w : World) : (callFunc 31 cap).run Try.prog w = .ok (.enter 31 cap) w := by
  kernel_rfl

theorem err_cell2 {w : World} {eb : Nat} {x : Int} {tmps : Array Value} (ht : tmps.getD 2 undef = .pointer (some ⟨eb, 0, none⟩)) (h : w.cell? ⟨eb, 0, none⟩ = some (.int .i64 x)) : (results Try.f11 tmps).run Try.prog w = .ok (.int .i64 x) w := by
  have ht' : tmps[2]?.getD undef = .pointer (some ⟨eb, 0, none⟩) := by simpa using ht
  simp [results, Try.results11, ht', go_sem, h]

set_option maxRecDepth 100000 in
set_option maxHeartbeats 2000000 in
theorem sync_any (h : IsDisk W b g bm D) : Calls Try.prog 11 #[.pointer (some ⟨b, 0, none⟩)] W fun e w' => e = .returned (.int .i64 (sync D).2) ∧ IsDisk w' b g bm (sync D).1 ∧ Kp (Foot b g bm) W w' := by
  have hmf : ∀ (fn : Fn) (first cap : Array Value) (w : World), (Instr.makeFunc fn first cap).run Try.prog w = .ok (.func fn first cap) w := fun _ _ _ _ => rfl
  have HW := Lib.hid (fun w (hw : IsDisk w b g bm D) => within_any hw 0)
  obtain ⟨x, hx⟩ : ∃ x, x = within D 0 := ⟨_, rfl⟩
  rw [← hx] at HW
  have HX := Lib.hid hx
  have HH := Lib.hid h
  clear h hx
  go_enter_defers Try.func11, Try.ntmps11
  go_wp2_with (go_at_call 30; refine (HW.out _ ((HH.out.alloc _).alloc _)).mono ?_; rintro e w' ⟨rfl, rfl⟩)
  generalize hO : ((W.alloc (Obj.cells #[Value.pointer (some { block := b, off := 0 })] 23)).alloc (Obj.cells #[Value.int IntKind.i64 x] 25)) = W4
  have hi : IsDisk W4 b g bm D := hO ▸ ((HH.out.alloc _).alloc _)
  have hk : Kp (Foot b g bm) W W4 := hO ▸ (((Kp.refl _ W).alloc _).alloc _)
  have hc : W4.cell? ⟨W.heap.size + 1, 0, none⟩ = some (.int .i64 x) := by rw [← hO]; simp [go_sem]
  have hf : W4.frozen? ⟨W.heap.size + 1, 0, none⟩ = false := by rw [← hO]; simp [go_sem]
  have hcd : W4.cell? ⟨W.heap.size, 0, none⟩ = some (.pointer (some ⟨b, 0, none⟩)) := by rw [← hO]; simp [go_sem]
  have hsz : W4.heap.size = W.heap.size + 2 := by rw [← hO]; simp
  have hlt := fun k (hk : Foot b g bm k) => HH.out.lt hk
  have hne : ∀ j, ¬ Foot b g bm (W.heap.size + j) := fun j hj => by have := hlt _ hj; omega
  refine leaves_cons (f := 28) (args := #[.pointer (some ⟨b, 0, none⟩), .pointer (some ⟨W.heap.size + 1, 0, none⟩), .func (.func 31) #[] #[.pointer (some ⟨W.heap.size, 0, none⟩)]]) (by simp) (by simp [go_sem]) ?_
  have hlo := HH.out.ok.lo
  unfold sync burn
  by_cases hoff : D.off = true
  · have hx0 : x = 180 := by rw [HX.out]; exact within_off hoff
    subst hx0
    rw [if_pos hoff]
    refine (burnt_err hi (W.heap.size + 1) 180 hc (by decide) _ _).mono ?_
    rintro e u' w'' ⟨rfl, rfl, hi2, hc2, hk2⟩
    exact ⟨_, err_cell2 rfl hc2, rfl, hi2, hk.then (hk2.mono fun k hk => hk.imp id (fun e => by omega))⟩
  · have hx0 : x = 0 := by rw [HX.out]; exact within_some (by simpa using hoff) (by omega) (by omega)
    subst hx0
    rw [if_neg hoff]
    by_cases hfu : D.fuse = 1
    · rw [if_pos hfu]
      refine (burnt_out hi (W.heap.size + 1) hc hf (hne 1) hfu _ _).mono ?_
      rintro e u' w'' ⟨rfl, rfl, hi2, hc2, hk2⟩
      exact ⟨_, err_cell2 rfl hc2, rfl, hi2, hk.then (hk2.mono fun k hk => hk.imp id (fun e => by omega))⟩
    · rw [if_neg hfu]
      refine (burnt_do hi (W.heap.size + 1) hc (hne 1) hfu settle _ _ (run_settle _) (fun W' hi' hk' => ?_) _).mono ?_
      · exact settle_any hi' _ ((hk'.cell (p := ⟨W.heap.size, 0, none⟩) (by show W.heap.size < _; omega) (hne 0)).trans hcd) (hne 0)
      · rintro e u' w'' ⟨rfl, rfl, hi2, hc2, hk2⟩
        exact ⟨_, err_cell2 rfl hc2, rfl, hi2, hk.then (hk2.mono fun k hk => hk.imp id (fun e => by omega))⟩
end Go.Proofs.Ytoafebndlldclaa.Dk
