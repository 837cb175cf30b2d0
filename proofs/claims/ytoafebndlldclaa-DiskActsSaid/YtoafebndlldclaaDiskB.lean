/- The calls of the disk's Read and Write are proved. -/
import Derived.Test.YtoafebndlldclaaDiskA
import Derived.Defers
import Derived.RegionTactic
import Derived.Laws.IdiomStrings
namespace Go.Proofs.Ytoafebndlldclaa.Dk
open Go Go.RowKit Go.ChangeMaps Go.MapKept

theorem setRow_alloc (w : World) (zs cs : Array Value) (t : TypeId) : (w.alloc (.cells zs t)).setRow w.heap.size cs = w.alloc (.cells cs t) := by
  unfold World.setRow World.alloc
  congr 1
  apply Array.ext_getElem?
  intro k
  rw [Array.getElem?_modify]
  by_cases hk : w.heap.size = k
  · subst hk; simp
  · rw [if_neg hk]
    simp only [Array.getElem?_push]
    rw [if_neg (fun e => hk e.symm), if_neg (fun e => hk e.symm)]

theorem splice_whole {α : Type} (L cs : List α) (h : L.length = cs.length) : splice L 0 cs = cs := by
  simp [splice, ← h]

section
variable {P : Program} {w : World} {ops : Array Oper} {rest : List Oper} {o : Oper} {a : Act} {Q : Exit → Act → World → Prop}
/-- an array is written over a block of its own -/
theorem wpList_store_new (hgd : o.guard = none) (ty : TypeId) (x y : Operand) (ho : o.op = .store ty x y) (v : World) (cur : List Value) (t : TypeId) (hw : w = v.alloc (.cells cur.toArray t)) (hx : a.eval x = .pointer (some ⟨v.heap.size, 0, none⟩)) (cs : List Value) (hy : a.eval y = .agg cs.toArray)
    (hl : cur.length = cs.length) (h1 : ∀ u ∈ cs, u.oneCell' = true) (hi : (P.info? ty).map (·.size) = some cs.length)
    (h : wpList P ops Q rest (a.put o.dst undef) (v.alloc (.cells cs.toArray t))) : wpList P ops Q (o :: rest) a w := by
  subst hw
  refine wpList_store_part hgd ty x y ho v.heap.size 0 hx cs hy t cur.toArray (Go.heap_alloc_new _ _) (by simp; omega) h1 hi ?_
  rw [show (splice cur.toArray.toList 0 cs) = cs from splice_whole _ _ (by simpa using hl), setRow_alloc]
  exact h

/-- 'x, is := d.dirty[i]' -/
theorem wpList_lookup_disk_ok (hg : o.guard = none) (m x : Operand) (t k e : TypeId) (hop : o.op = Op.lookup t m x true) (K : Maps.Keyed P k) (ht : P.underlying t = some (.map k e)) (hki : P.underlying k = some (.int .i64)) (hz : (zeroValue e).run P w = .ok (.agg (Lib.byteCells (zeros 64)).toArray) w) (bm n : Nat) (news : List (Option Bs))
    (hm : a.eval m = .map (some bm)) (hown : w.ownsMap P k secElem bm n (datum news)) (i : Nat) (hi : i ≤ 9223372036854775807) (hx : a.eval x = .int .i64 i)
    (y : Option Bs) (z : Bs) (hy : news.getD i none = y) (hyz : y.getD (zeros 64) = z)
    (hK : wpList P ops Q rest (a.put o.dst (.tuple #[.agg (Lib.byteCells z).toArray, .bool y.isSome])) w) :
    wpList P ops Q (o :: rest) a w := by
  refine wpList_lookup_own_ok w hg m x t hop k e K ht secElem hz (.lit (.string (zeros 64))) [] (secElem_mk (zeros_length 64)) bm n (datum news) hm hown _ (.int .i64 i) hx (Maps.keyOf_int_mk hki (WalkArith.wf_i64 (by omega))) ?_
  intro v ps hv
  rw [datum_has, hy]
  obtain ⟨l, hl, rfl, h2⟩ := secElem_inv hv
  rw [datum_at] at h2
  have : l = z := by
    rw [← hyz, ← hy, List.getD_eq_getElem?_getD]
    cases hn : news[i]? with
    | none => rw [hn] at h2; simp at h2; simp [h2.1]
    | some y => cases y with
      | none => rw [hn] at h2; simp at h2; simp [h2.1]
      | some s => rw [hn] at h2; simp at h2; simp [h2.1]
  rw [this]
  exact hK
end

theorem zero_sector (w : World) : (zeroValue 58).run Try.prog w = .ok (.agg (Lib.byteCells (zeros 64)).toArray) w := by kernel_rfl
theorem zero_info : (Try.prog.info? 58).bind (·.zero) = some (.agg (Lib.byteCells (zeros 64)).toArray) := by kernel_rfl
theorem size_info : (Try.prog.info? 58).map (·.size) = some 64 := by kernel_rfl
theorem conv_back (l : Bs) (b cap : Nat) (w : World) (hc : ∀ j v, (Lib.byteCells l)[j]? = some v → w.cell? ⟨b, j, none⟩ = some v) : (convert 30 9 (.slice (some ⟨b, 0, none⟩) l.length cap)).run Try.prog w = .ok (.string ⟨l.toArray⟩) w := by
  refine run_convert_bytes_back _ 30 9 5 ⟨b, 0, none⟩ cap l (by kernel_rfl) (by kernel_rfl) (by kernel_rfl) (fun j hj => ?_)
  rw [show (⟨b, 0, none⟩ : Addr).add j = ⟨b, j, none⟩ from by unfold Addr.add; split <;> simp_all]
  exact hc j _ (by simp [Lib.byteCells, List.getElem?_eq_getElem hj])

variable {W : World} {b g bm : Nat} {D : DS}

set_option maxRecDepth 100000 in
set_option maxHeartbeats 1000000 in
theorem read_no (h : IsDisk W b g bm D) (i : Int) (hn : within D i ≠ 0) : Calls Try.prog 14 #[.pointer (some ⟨b, 0, none⟩), .int .i64 i] W fun e w' => e = .returned (.tuple #[.string ⟨#[]⟩, .int .i64 (within D i)]) ∧ W = w' := by
  have HC := Lib.hid (within_any h i)
  obtain ⟨x, hx⟩ : ∃ x, x = within D i := ⟨_, rfl⟩
  rw [← hx] at hn HC ⊢
  have ht : (x != 0) = true := by rw [bne_iff_ne]; exact hn
  clear hx hn
  go_enter Try.func14, Try.ntmps14
  go_wp2_with (go_at_call 30; refine HC.out.mono ?_; rintro e w' ⟨rfl, rfl⟩)
  go_ret2
  exact ⟨rfl, rfl⟩

theorem in_range {D : DS} (hk : D.Ok) {i : Nat} (h : i < D.olds.length) : i ≤ 9223372036854775807 := by have := hk.hi; omega

set_option maxRecDepth 100000 in
set_option maxHeartbeats 1000000 in
theorem read_new (h : IsDisk W b g bm D) (i : Nat) (h0 : within D i = 0) (s : Bs) (hs : D.news.getD i none = some s) (hl : s.length = 64) (hi : i ≤ 9223372036854775807) : Calls Try.prog 14 #[.pointer (some ⟨b, 0, none⟩), .int .i64 i] W fun e w' => e = .returned (.tuple #[.string ⟨s.toArray⟩, .int .i64 0]) ∧ Below W.heap.size W w' := by
  have hw := within_any h i
  rw [h0] at hw
  have HC := Lib.hid hw
  have HS := Lib.hid hs
  have HL := Lib.hid hl
  have hmap := h.map
  have c1 := h.c1
  have hcv := conv_back s W.heap.size 64 (W.alloc (.cells (Lib.byteCells s).toArray 58)) (fun j v hv => by rw [World.cell?_alloc_at _ _ _ _ rfl]; simpa using hv)
  rw [hl] at hcv
  clear hw h h0 hs hl
  go_enter Try.func14, Try.ntmps14
  go_wp2_with (first
    | (go_at_call 30; refine HC.out.mono ?_; rintro e w' ⟨rfl, rfl⟩)
    | (at_lookup; refine wpList_lookup_disk_ok rfl _ _ 54 3 58 rfl (Maps.int_keyed Try.underlying3) Try.underlying54 Try.underlying3 (zero_sector _) bm _ D.news rfl hmap i hi rfl (some s) s HS.out rfl ?_)
    | (refine wpList_alloc_agg rfl 58 rfl _ zero_info ?_)
    | (refine wpList_store_new rfl 58 _ _ rfl W (Lib.byteCells (zeros 64)) 58 rfl rfl (Lib.byteCells s) rfl (by rw [Lib.byteCells_length, Lib.byteCells_length, HL.out, zeros_length]) (Lib.byteCells_one _) (by rw [Lib.byteCells_length, HL.out]; exact size_info) ?_))
  go_ret2
  exact ⟨rfl, (Below.refl _ W).alloc (Nat.le_refl _) _⟩

set_option maxRecDepth 100000 in
set_option maxHeartbeats 1000000 in
theorem read_old (h : IsDisk W b g bm D) (i : Nat) (h0 : within D i = 0) (s : Bs) (hs : D.news.getD i none = none) (ho : D.olds[i]? = some s) (hi : i ≤ 9223372036854775807) : Calls Try.prog 14 #[.pointer (some ⟨b, 0, none⟩), .int .i64 i] W fun e w' => e = .returned (.tuple #[.string ⟨s.toArray⟩, .int .i64 0]) ∧ Below W.heap.size W w' := by
  have hw := within_any h i
  rw [h0] at hw
  have hl : s.length = 64 := h.ok.old s (List.mem_of_getElem? ho)
  have hlt : i < D.olds.length := (List.getElem?_eq_some_iff.1 ho).1
  have hlt2 : (i : Int) < (D.olds.length : Int) := by omega
  have HC := Lib.hid hw
  have HS := Lib.hid hs
  have HL := Lib.hid hl
  have HRC := Lib.hid (cells_flat h.ok.old ho)
  have hmap := h.map
  have c0 := h.c0
  have c1 := h.c1
  have c0' : (W.alloc (.cells (Lib.byteCells (zeros 64)).toArray 58)).cell? ⟨b, 0, none⟩ = some (.slice (some ⟨g, 0, none⟩) D.olds.length D.olds.length) := (h.alloc _).c0
  have HR := Lib.hid (h.alloc (.cells (Lib.byteCells (zeros 64)).toArray 58)).row
  have hcv := conv_back s W.heap.size 64 (W.alloc (.cells (Lib.byteCells s).toArray 58)) (fun j v hv => by rw [World.cell?_alloc_at _ _ _ _ rfl]; simpa using hv)
  rw [hl] at hcv
  clear hw h h0 hs hl ho
  go_enter Try.func14, Try.ntmps14
  go_wp2_with (first
    | (go_at_call 30; refine HC.out.mono ?_; rintro e w' ⟨rfl, rfl⟩)
    | (at_lookup; refine wpList_lookup_disk_ok rfl _ _ 54 3 58 rfl (Maps.int_keyed Try.underlying3) Try.underlying54 Try.underlying3 (zero_sector _) bm _ D.news rfl hmap i hi rfl none (zeros 64) HS.out rfl ?_)
    | (refine wpList_alloc_agg rfl 58 rfl _ zero_info ?_)
    | (refine wpList_store_new rfl 58 _ _ rfl W (Lib.byteCells (zeros 64)) 58 rfl rfl (Lib.byteCells (zeros 64)) rfl rfl (Lib.byteCells_one _) size_info ?_)
    | (refine wpList_load_part rfl 58 _ rfl g (i * 64) rfl 58 _ _ _ (Lib.byteCells s) HR.out HRC.out Try.underlying58 rfl (by rw [Lib.byteCells_length, HL.out]; exact size_info) ?_)
    | (refine wpList_store_new rfl 58 _ _ rfl W (Lib.byteCells (zeros 64)) 58 rfl rfl (Lib.byteCells s) rfl (by rw [Lib.byteCells_length, Lib.byteCells_length, HL.out, zeros_length]) (Lib.byteCells_one _) (by rw [Lib.byteCells_length, HL.out]; exact size_info) ?_))
  go_ret2
  exact ⟨rfl, (Below.refl _ W).alloc (Nat.le_refl _) _⟩

theorem read_any (h : IsDisk W b g bm D) (i : Int) : Calls Try.prog 14 #[.pointer (some ⟨b, 0, none⟩), .int .i64 i] W fun e w' => e = .returned (.tuple #[.string ⟨(read D i).1.toArray⟩, .int .i64 (read D i).2]) ∧ Below W.heap.size W w' := by
  unfold read
  by_cases h0 : within D i = 0
  · rw [if_neg (by simpa using h0)]
    obtain ⟨h1, h2, h3⟩ := within_zero h0
    obtain ⟨k, rfl⟩ := Int.eq_ofNat_of_zero_le h2
    have hk : k < D.olds.length := by omega
    have hi := in_range h.ok hk
    rw [Int.toNat_natCast]
    unfold sect
    cases hn : D.news.getD k none with
    | none =>
      have ho : D.olds[k]? = some (D.olds.getD k []) := by rw [List.getD_eq_getElem?_getD, List.getElem?_eq_getElem hk]; rfl
      exact read_old h k h0 _ hn ho hi
    | some s =>
      refine read_new h k h0 s hn (h.ok.new s ?_) hi
      rw [List.getD_eq_getElem?_getD] at hn
      cases hx : D.news[k]? with
      | none => rw [hx] at hn; cases hn
      | some y => rw [hx] at hn; cases hn; exact List.mem_of_getElem? hx
  · rw [if_pos h0]
    refine (read_no h i h0).mono ?_
    rintro e w' ⟨rfl, rfl⟩
    exact ⟨rfl, Below.refl _ _⟩

set_option maxRecDepth 100000 in
set_option maxHeartbeats 1000000 in
theorem put_any (h : IsDisk W b g bm D) (i : Nat) (hi : i < D.olds.length) (x : Bs) (hx : x.length = 64) (xb db ib : Nat) (hxb : W.heap[xb]? = some (.cells (Lib.byteCells x).toArray 58 (0, 0))) (hdb : W.cell? ⟨db, 0, none⟩ = some (.pointer (some ⟨b, 0, none⟩))) (hib : W.cell? ⟨ib, 0, none⟩ = some (.int .i64 i)) :
    Calls Try.prog 29 #[.pointer (some ⟨xb, 0, none⟩), .pointer (some ⟨db, 0, none⟩), .pointer (some ⟨ib, 0, none⟩)] W fun e w' => e = .returned (.tuple #[]) ∧ IsDisk w' b g bm (put i x D) ∧ Kp (Foot b g bm) W w' := by
  have hw := in_range h.ok hi
  have c1 := h.c1
  have HX := Lib.hid hxb
  have HL := Lib.hid hx
  have HI := Lib.hid hi
  have HH := Lib.hid h
  have hmap := h.map
  have hsz : Maps.size (datum D.news) < maxLen := by
    have := datum_size D.news
    have := h.ok.len
    have := h.ok.hi
    unfold maxLen; omega
  clear h hxb hx hi
  go_enter Try.func29, Try.ntmps29
  go_wp2
  refine wp_region_still_tail 6 (by kernel_rfl) (by kernel_rfl) ?_
  simp only [List.take_succ_cons, List.take_zero, List.drop_succ_cons, List.drop_zero]
  repeat (first
    | (refine wpStill_step (fun K hK => still_load_row rfl 58 _ rfl xb 0 rfl 58 _ _ _ (Lib.byteCells x) HX.out (fun j v hv => by rw [Nat.zero_add]; simpa using hv) Try.underlying58 rfl (by rw [Lib.byteCells_length, HL.out]; exact size_info) (hK _ ?_)))
    | still_step)
  refine wpStill_nil ?_
  go_frame
  clear hK K
  change wpList _ _ _ _ _ W.drew
  refine wpList_mapUpdate_in _ rfl _ _ _ 54 rfl 3 58 (Maps.int_keyed Try.underlying3) Try.underlying54 secElem bm _ (datum D.news) rfl hmap.drew hsz _ _ (.int .i64 i) rfl rfl (Maps.keyOf_int_mk Try.underlying3 (WalkArith.wf_i64 (by omega))) (.lit (.string x)) [] (secElem_mk HL.out) ?_
  intro w1 hown1 hturn1
  have HT := Lib.hid hturn1
  have HO := Lib.hid hown1
  clear hown1 hturn1
  go_wp2
  go_end0
  have ho := HO.out
  rw [datum_put _ _ (by rw [HH.out.ok.len]; exact HI.out)] at ho
  refine ⟨rfl, HH.out.drew.turned HT.out ho (by simp [HH.out.ok.len]) ?_, (Kp.refl _ W).drew.then ((Kp.of_grown HT.out.grown (fun k e => ?_)))⟩
  · intro s hs
    rcases List.mem_or_eq_of_mem_set hs with hs | hs
    · exact HH.out.ok.new s hs
    · cases hs; exact HL.out
  · cases e; exact .inl (.inr (.inr rfl))
end Go.Proofs.Ytoafebndlldclaa.Dk
