/- The calls of the disk's Write and Sync are proved: what they defer, and the fuse. -/
import Derived.Test.YtoafebndlldclaaDiskB
namespace Go.Proofs.Ytoafebndlldclaa.Dk
open Go Go.RowKit Go.ChangeMaps Go.MapKept
variable {W : World} {b g bm : Nat} {D : DS}

theorem setCell_two (w : World) (blk off : Nat) (v v' : Value) : (w.setCell ⟨blk, off, none⟩ v).setCell ⟨blk, off, none⟩ v' = w.setCell ⟨blk, off, none⟩ v' := by
  simp only [World.setCell]
  congr 1
  apply Array.ext_getElem?
  intro k
  simp only [Array.getElem?_modify]
  split
  · cases w.heap[k]? with
    | none => rfl
    | some o => cases o <;> simp
  · rfl

/-- what a deferred call to burnt comes to -/
def BurntIs (b g bm eb : Nat) (W : World) (D' : DS) (x : Int) (w' : World) : Prop := IsDisk w' b g bm D' ∧ w'.cell? ⟨eb, 0, none⟩ = some (.int .i64 x) ∧ Kp (fun k => Foot b g bm k ∨ k = eb) W w'

set_option maxRecDepth 100000 in
set_option maxHeartbeats 1000000 in
theorem burnt_err (h : IsDisk W b g bm D) (eb : Nat) (x : Int) (he : W.cell? ⟨eb, 0, none⟩ = some (.int .i64 x)) (hx : x ≠ 0) (f : Value) (u : FrameMode) :
    CallsD Try.prog 28 #[.pointer (some ⟨b, 0, none⟩), .pointer (some ⟨eb, 0, none⟩), f] u W fun e u' w' => u' = u ∧ (e = .returned (.tuple #[]) ∧ BurntIs b g bm eb W D x w') := by
  have ht : (x != 0) = true := by rw [bne_iff_ne]; exact hx
  have HB := Lib.hid (show BurntIs b g bm eb W D x W from ⟨h, he, Kp.refl _ _⟩)
  clear h hx
  go_enter_d Try.func28, Try.ntmps28
  go_wp2
  refine bodyPost_ret (results_none rfl _ _ _) rfl ?_
  exact ⟨rfl, HB.out⟩

set_option maxRecDepth 100000 in
set_option maxHeartbeats 1000000 in
theorem burnt_out (h : IsDisk W b g bm D) (eb : Nat) (he : W.cell? ⟨eb, 0, none⟩ = some (.int .i64 0)) (fe : W.frozen? ⟨eb, 0, none⟩ = false) (hne : ¬ Foot b g bm eb) (hf : D.fuse = 1) (f : Value) (u : FrameMode) :
    CallsD Try.prog 28 #[.pointer (some ⟨b, 0, none⟩), .pointer (some ⟨eb, 0, none⟩), f] u W fun e u' w' => u' = u ∧ (e = .returned (.tuple #[]) ∧ BurntIs b g bm eb W { D with fuse := 0, off := true } 180 w') := by
  have c2 := h.c2
  rw [hf] at c2
  have f2 := h.free 2
  have f3 := h.free 3
  have hbe : eb ≠ b := fun e => hne (.inl e)
  have c3 := h.c3
  have hs : IsDisk (W.setCell ⟨b, 2, none⟩ (.int .i64 0)) b g bm { D with fuse := 0 } := h.setFuse 0 (by omega)
  have c3' : (W.setCell ⟨b, 2, none⟩ (.int .i64 0)).cell? ⟨b, 3, none⟩ = some (.bool D.off) := hs.c3
  have h1 := hs.setOff true
  have h2 := h1.setCell (p := ⟨eb, 0, none⟩) hne (.int .i64 180)
  have hk := ((((Kp.refl (fun k => Foot b g bm k ∨ k = eb) W).setCell (p := ⟨b, 2, none⟩) (.inl (.inl rfl)) (.int .i64 0)).setCell (p := ⟨b, 3, none⟩) (.inl (.inl rfl)) (.bool true)).setCell (p := ⟨eb, 0, none⟩) (.inr rfl) (.int .i64 180))
  have hc : (((W.setCell ⟨b, 2, none⟩ (.int .i64 0)).setCell ⟨b, 3, none⟩ (.bool true)).setCell ⟨eb, 0, none⟩ (.int .i64 180)).cell? ⟨eb, 0, none⟩ = some (.int .i64 180) := by
    refine World.cell?_setCell_same _ _ _ (u := .int .i64 0) ?_
    rw [World.cell?_setCell_other _ _ _ _ (by simp), World.cell?_setCell_other _ _ _ _ (by simp)]; exact he
  have HB := Lib.hid (show BurntIs b g bm eb W { D with fuse := 0, off := true } 180 _ from ⟨h2, hc, hk⟩)
  have c2' : (W.setCell ⟨b, 2, none⟩ (.int .i64 0)).cell? ⟨b, 2, none⟩ = some (.int .i64 0) := World.cell?_setCell_same _ _ _ c2
  have e1 : ((W.setCell ⟨b, 2, none⟩ (.int .i64 0)).setCell ⟨b, 3, none⟩ (.bool true)).cell? ⟨eb, 0, none⟩ = some (.int .i64 0) := by
    rw [World.cell?_setCell_other _ _ _ _ (by simp), World.cell?_setCell_other _ _ _ _ (by simp)]; exact he
  clear h hf h1 h2 hk hc hne hs
  go_enter_d Try.func28, Try.ntmps28
  go_wp2
  refine bodyPost_ret (results_none rfl _ _ _) rfl ?_
  exact ⟨rfl, HB.out⟩

set_option maxRecDepth 100000 in
set_option maxHeartbeats 1000000 in
theorem burnt_do (h : IsDisk W b g bm D) (eb : Nat) (he : W.cell? ⟨eb, 0, none⟩ = some (.int .i64 0)) (hne : ¬ Foot b g bm eb) (hf : D.fuse ≠ 1) (F : DS → DS) (f : FuncId) (cap : Array Value) (hrun : ∀ w, (callFunc f cap).run Try.prog w = .ok (.enter f cap) w)
    (hdo : ∀ W', IsDisk W' b g bm { D with fuse := D.fuse - 1 } → Kp (Foot b g bm) W W' → Calls Try.prog f cap W' fun e w' => e = .returned (.tuple #[]) ∧ IsDisk w' b g bm (F { D with fuse := D.fuse - 1 }) ∧ Kp (Foot b g bm) W' w') (u : FrameMode) :
    CallsD Try.prog 28 #[.pointer (some ⟨b, 0, none⟩), .pointer (some ⟨eb, 0, none⟩), .func (.func f) #[] cap] u W fun e u' w' => u' = u ∧ (e = .returned (.tuple #[]) ∧ BurntIs b g bm eb W (F { D with fuse := D.fuse - 1 }) 0 w') := by
  have c2 := h.c2
  have f2 := h.free 2
  have hfu := h.ok.fuse
  have hec : ∀ w', Kp (Foot b g bm) W w' → w'.cell? ⟨eb, 0, none⟩ = some (.int .i64 0) := fun w' hk => (hk.cell (p := ⟨eb, 0, none⟩) (World.block_lt_of_cell? _ _ he) hne).trans he
  by_cases h0 : D.fuse = 0
  · have hdD : ({ D with fuse := D.fuse - 1 } : DS) = D := by rw [h0]; cases D; cases h0; rfl
    rw [hdD] at hdo ⊢
    have hW : (W.setCell ⟨b, 2, none⟩ (.int .i64 (-1))).setCell ⟨b, 2, none⟩ (.int .i64 0) = W.setCell ⟨b, 2, none⟩ (.int .i64 0) := setCell_two _ _ _ _ _
    have hi : IsDisk (W.setCell ⟨b, 2, none⟩ (.int .i64 0)) b g bm D := by
      have := h.setFuse 0 (by omega)
      rwa [show ({ D with fuse := 0 } : DS) = D from by cases D; cases h0; rfl] at this
    have hk : Kp (Foot b g bm) W (W.setCell ⟨b, 2, none⟩ (.int .i64 0)) := (Kp.refl _ W).setCell (.inl rfl) _
    have hd := hdo _ hi hk
    rw [← hW] at hd hk
    rw [h0] at c2
    have c2' : (W.setCell ⟨b, 2, none⟩ (.int .i64 (-1))).cell? ⟨b, 2, none⟩ = some (.int .i64 (-1)) := World.cell?_setCell_same _ _ _ c2
    have HD := Lib.hid hd
    have HK := Lib.hid hk
    have HE := Lib.hid hec
    clear hd hk hW hi hdo h hf h0 hdD hec
    go_enter_d Try.func28, Try.ntmps28
    go_wp2_with fail
    refine HD.out.mono ?_
    rintro e w' ⟨rfl, hi, hk⟩
    have HI := Lib.hid hi
    have HK2 := Lib.hid hk
    clear hi hk
    go_wp2
    go_end0
    exact ⟨rfl, HI.out, HE.out _ (HK.out.trans HK2.out), (HK.out.trans HK2.out).mono fun k hk => .inl hk⟩
  · have hW : (W.setCell ⟨b, 2, none⟩ (.int .i64 ((D.fuse : Int) - 1))).setCell ⟨b, 2, none⟩ (.int .i64 ((D.fuse : Int) - 1)) = W.setCell ⟨b, 2, none⟩ (.int .i64 ((D.fuse : Int) - 1)) := setCell_two _ _ _ _ _
    have hi := h.setFuse (D.fuse - 1) (by omega)
    rw [show (((D.fuse - 1 : Nat) : Int)) = (D.fuse : Int) - 1 from by omega] at hi
    have hk : Kp (Foot b g bm) W (W.setCell ⟨b, 2, none⟩ (.int .i64 ((D.fuse : Int) - 1))) := (Kp.refl _ W).setCell (.inl rfl) _
    have hd := hdo _ hi hk
    rw [← hW] at hd hk
    have c2' : (W.setCell ⟨b, 2, none⟩ (.int .i64 ((D.fuse : Int) - 1))).cell? ⟨b, 2, none⟩ = some (.int .i64 ((D.fuse : Int) - 1)) := World.cell?_setCell_same _ _ _ c2
    have ht : ((D.fuse : Int) - 1 == 0) = false := beq_eq_false_iff_ne.2 (by omega)
    have h1 : ¬ (D.fuse : Int) - 1 < 0 := by omega
    have HD := Lib.hid hd
    have HK := Lib.hid hk
    have HE := Lib.hid hec
    clear hd hk hW hi hdo h hf hec
    go_enter_d Try.func28, Try.ntmps28
    go_wp2_with fail
    refine HD.out.mono ?_
    rintro e w' ⟨rfl, hi, hk⟩
    have HI := Lib.hid hi
    have HK2 := Lib.hid hk
    clear hi hk
    go_wp2
    go_end0
    exact ⟨rfl, HI.out, HE.out _ (HK.out.trans HK2.out), (HK.out.trans HK2.out).mono fun k hk => .inl hk⟩

theorem pad_splice (s : Bs) : splice (Lib.byteCells (zeros 64)) 0 (Lib.byteCells s) = Lib.byteCells (pad s) := by
  unfold splice pad Lib.byteCells zeros
  rw [List.take_zero, List.nil_append, Nat.zero_add, List.length_map, List.map_append, ← List.map_drop, List.drop_replicate]

section
variable {P : Program} {w : World} {ops : Array Oper} {rest : List Oper} {o : Oper} {a : Act} {Q : Exit → Act → World → Prop}
/-- 'copy(x[:], s)', x a block of its own -/
theorem wpList_copy_new (hgd : o.guard = none) (d s : Operand) (dT sT : TypeId) (ho : o.op = .call { callee := .builtin .copy, args := #[d, s], argTypes := #[dT, sT] }) (elem : TypeId) (hu : P.underlying dT = some (.slice elem)) (hsz : (P.info? elem).map (·.size) = some 1)
    (v : World) (cur : List Value) (t : TypeId) (hw : w = v.alloc (.cells cur.toArray t)) (n : Nat) (hn : n = v.heap.size) (dLen dCap : Nat) (x : ByteArray) (hd : a.eval d = .slice (some ⟨n, 0, none⟩) dLen dCap) (hs : a.eval s = .string x) (m : Nat) (hm : Nat.min x.size dLen = m) (hfit : m ≤ cur.length)
    (h : wpList P ops Q rest (a.put o.dst (.int .i64 (m : Nat))) (v.alloc (.cells (splice cur 0 (Lib.byteCells (x.data.toList.take dLen))).toArray t))) : wpList P ops Q (o :: rest) a w := by
  subst hw hn
  refine wpList_copy_string hgd d s dT sT ho elem hu hsz v.heap.size 0 dLen dCap x hd hs cur.toArray t (Go.heap_alloc_new _ _) (by rw [hm]; simpa using hfit) ?_
  rw [hm, setRow_alloc]
  exact h
end

theorem byte_info : (Try.prog.info? 5).map (·.size) = some 1 := by kernel_rfl
theorem err_cell {w : World} {eb : Nat} {x : Int} {tmps : Array Value} (ht : tmps.getD 6 undef = .pointer (some ⟨eb, 0, none⟩)) (h : w.cell? ⟨eb, 0, none⟩ = some (.int .i64 x)) : (results Try.f10 tmps).run Try.prog w = .ok (.int .i64 x) w := by
  have ht' : tmps[6]?.getD undef = .pointer (some ⟨eb, 0, none⟩) := by simpa using ht
  simp [results, Try.results10, ht', go_sem, h]

set_option maxRecDepth 100000 in
set_option maxHeartbeats 2000000 in
theorem write_no (h : IsDisk W b g bm D) (i : Int) (s : ByteArray) (hn : within D i ≠ 0) : Calls Try.prog 10 #[.pointer (some ⟨b, 0, none⟩), .int .i64 i, .string s] W fun e w' => e = .returned (.int .i64 (within D i)) ∧ IsDisk w' b g bm D ∧ Kp (Foot b g bm) W w' := by
  have hmf : ∀ (fn : Fn) (first cap : Array Value) (w : World), (Instr.makeFunc fn first cap).run Try.prog w = .ok (.func fn first cap) w := fun _ _ _ _ => rfl
  have HW := Lib.hid (fun w (hw : IsDisk w b g bm D) => within_any hw i)
  obtain ⟨x, hx⟩ : ∃ x, x = within D i := ⟨_, rfl⟩
  rw [← hx] at hn HW ⊢
  have ht : (x != 0) = true := by rw [bne_iff_ne]; exact hn
  have HN := Lib.hid hn
  have HH := Lib.hid h
  clear hx hn h
  go_enter_defers Try.func10, Try.ntmps10
  go_wp2_with (first
    | (refine wpList_alloc_agg rfl 58 rfl _ zero_info ?_)
    | (go_at_call 30; refine (HW.out _ ((((HH.out.alloc _).alloc _).alloc _).alloc _)).mono ?_; rintro e w' ⟨rfl, rfl⟩))
  generalize hO : ((((W.alloc (Obj.cells #[Value.pointer (some { block := b, off := 0 })] 23)).alloc (Obj.cells #[Value.int IntKind.i64 i] 3)).alloc (Obj.cells #[Value.int IntKind.i64 x] 25)).alloc (Obj.cells (Lib.byteCells (zeros 64)).toArray 58)) = W4
  have hi : IsDisk W4 b g bm D := hO ▸ ((((HH.out.alloc _).alloc _).alloc _).alloc _)
  have hk : Kp (Foot b g bm) W W4 := hO ▸ (((((Kp.refl _ W).alloc _).alloc _).alloc _).alloc _)
  have hc : W4.cell? ⟨W.heap.size + 2, 0, none⟩ = some (.int .i64 x) := by rw [← hO]; simp [go_sem]
  rw [show W.heap.size + 1 + 1 = W.heap.size + 2 from rfl]
  refine leaves_cons (f := 28) (args := #[.pointer (some ⟨b, 0, none⟩), .pointer (some ⟨W.heap.size + 2, 0, none⟩), .func (.func 29) #[] #[.pointer (some ⟨W.heap.size + 2 + 1, 0, none⟩), .pointer (some ⟨W.heap.size, 0, none⟩), .pointer (some ⟨W.heap.size + 1, 0, none⟩)]]) (by simp) (by simp [go_sem]) ?_
  refine (burnt_err hi (W.heap.size + 2) x hc HN.out _ _).mono ?_
  rintro e u' w'' ⟨rfl, rfl, hi2, hc2, hk2⟩
  exact ⟨_, err_cell rfl hc2, rfl, hi2, hk.then (hk2.mono fun k hk => hk.imp id (fun e => by omega))⟩

set_option maxRecDepth 100000 in
set_option maxHeartbeats 2000000 in
theorem write_long (h : IsDisk W b g bm D) (i : Int) (s : ByteArray) (h0 : within D i = 0) (hs : 64 < s.size) (hs2 : s.size ≤ 9223372036854775807) : Calls Try.prog 10 #[.pointer (some ⟨b, 0, none⟩), .int .i64 i, .string s] W fun e w' => e = .returned (.int .i64 1) ∧ IsDisk w' b g bm D ∧ Kp (Foot b g bm) W w' := by
  have hmf : ∀ (fn : Fn) (first cap : Array Value) (w : World), (Instr.makeFunc fn first cap).run Try.prog w = .ok (.func fn first cap) w := fun _ _ _ _ => rfl
  have HW := Lib.hid (fun w (hw : IsDisk w b g bm D) => within_any hw i)
  rw [h0] at HW
  have hm : Nat.min s.size 64 = 64 := Nat.min_eq_right (by omega)
  have hsi : (64 : Int) < (s.size : Int) := by omega
  have HM := Lib.hid hm
  have HH := Lib.hid h
  clear h h0 hm
  go_enter_defers Try.func10, Try.ntmps10
  go_wp2_with (first
    | (refine wpList_alloc_agg rfl 58 rfl _ zero_info ?_)
    | (go_at_call 30; refine (HW.out _ ((((HH.out.alloc _).alloc _).alloc _).alloc _)).mono ?_; rintro e w' ⟨rfl, rfl⟩)
    | (refine wpList_copy_new rfl _ _ 30 9 rfl 5 Try.underlying30 byte_info _ (Lib.byteCells (zeros 64)) 58 rfl (W.heap.size + 1 + 1 + 1) (by simp) 64 64 s rfl rfl 64 HM.out (by rw [Lib.byteCells_length, zeros_length]; exact Nat.le_refl _) ?_))
  generalize hO : ((((W.alloc (Obj.cells #[Value.pointer (some { block := b, off := 0 })] 23)).alloc (Obj.cells #[Value.int IntKind.i64 i] 3)).alloc (Obj.cells #[Value.int IntKind.i64 1] 25)).alloc _) = W4
  have hi : IsDisk W4 b g bm D := hO ▸ ((((HH.out.alloc _).alloc _).alloc _).alloc _)
  have hk : Kp (Foot b g bm) W W4 := hO ▸ (((((Kp.refl _ W).alloc _).alloc _).alloc _).alloc _)
  have hc : W4.cell? ⟨W.heap.size + 2, 0, none⟩ = some (.int .i64 1) := by rw [← hO]; simp [go_sem]
  rw [show W.heap.size + 1 + 1 = W.heap.size + 2 from rfl]
  refine leaves_cons (f := 28) (args := #[.pointer (some ⟨b, 0, none⟩), .pointer (some ⟨W.heap.size + 2, 0, none⟩), .func (.func 29) #[] #[.pointer (some ⟨W.heap.size + 2 + 1, 0, none⟩), .pointer (some ⟨W.heap.size, 0, none⟩), .pointer (some ⟨W.heap.size + 1, 0, none⟩)]]) (by simp) (by simp [go_sem]) ?_
  refine (burnt_err hi (W.heap.size + 2) 1 hc (by decide) _ _).mono ?_
  rintro e u' w'' ⟨rfl, rfl, hi2, hc2, hk2⟩
  exact ⟨_, err_cell rfl hc2, rfl, hi2, hk.then (hk2.mono fun k hk => hk.imp id (fun e => by omega))⟩

theorem run_put (cap : Array Value) (w : World) : (callFunc 29 cap).run Try.prog w = .ok (.enter 29 cap) w := by
  kernel_rfl

set_option maxRecDepth 100000 in
set_option maxHeartbeats 2000000 in
theorem write_ok (h : IsDisk W b g bm D) (i : Nat) (s : ByteArray) (h0 : within D i = 0) (hs : s.size ≤ 64) : Calls Try.prog 10 #[.pointer (some ⟨b, 0, none⟩), .int .i64 i, .string s] W fun e w' => e = .returned (.int .i64 (burn D (put i (pad s.data.toList))).2) ∧ IsDisk w' b g bm (burn D (put i (pad s.data.toList))).1 ∧ Kp (Foot b g bm) W w' := by
  have hmf : ∀ (fn : Fn) (first cap : Array Value) (w : World), (Instr.makeFunc fn first cap).run Try.prog w = .ok (.func fn first cap) w := fun _ _ _ _ => rfl
  have HW := Lib.hid (fun w (hw : IsDisk w b g bm D) => within_any hw i)
  rw [h0] at HW
  have hm : Nat.min s.size 64 = s.size := Nat.min_eq_left hs
  have HM := Lib.hid hm
  have HH := Lib.hid h
  have H0 := Lib.hid h0
  clear h h0 hm
  go_enter_defers Try.func10, Try.ntmps10
  go_wp2_with (first
    | (refine wpList_alloc_agg rfl 58 rfl _ zero_info ?_)
    | (go_at_call 30; refine (HW.out _ ((((HH.out.alloc _).alloc _).alloc _).alloc _)).mono ?_; rintro e w' ⟨rfl, rfl⟩)
    | (refine wpList_copy_new rfl _ _ 30 9 rfl 5 Try.underlying30 byte_info _ (Lib.byteCells (zeros 64)) 58 rfl (W.heap.size + 1 + 1 + 1) (by simp) 64 64 s rfl rfl s.size HM.out (by rw [Lib.byteCells_length, zeros_length]; exact hs) ?_))
  have hsl : s.data.toList.length = s.size := by rw [Array.length_toList]; rfl
  rw [List.take_of_length_le (by rw [hsl]; exact hs), pad_splice]
  obtain ⟨X, hX⟩ : ∃ X, X = pad s.data.toList := ⟨_, rfl⟩
  rw [← hX]
  have hXl : X.length = 64 := by rw [hX]; exact pad_length (by rw [hsl]; exact hs)
  clear hX
  generalize hO : ((((W.alloc (Obj.cells #[Value.pointer (some { block := b, off := 0 })] 23)).alloc (Obj.cells #[Value.int IntKind.i64 (i : Int)] 3)).alloc (Obj.cells #[Value.int IntKind.i64 0] 25)).alloc (Obj.cells (Lib.byteCells X).toArray 58)) = W4
  have hi : IsDisk W4 b g bm D := hO ▸ ((((HH.out.alloc _).alloc _).alloc _).alloc _)
  have hk : Kp (Foot b g bm) W W4 := hO ▸ (((((Kp.refl _ W).alloc _).alloc _).alloc _).alloc _)
  have hc : W4.cell? ⟨W.heap.size + 2, 0, none⟩ = some (.int .i64 0) := by rw [← hO]; simp [go_sem]
  have hf : W4.frozen? ⟨W.heap.size + 2, 0, none⟩ = false := by rw [← hO]; simp [go_sem]
  have hcd : W4.cell? ⟨W.heap.size, 0, none⟩ = some (.pointer (some ⟨b, 0, none⟩)) := by rw [← hO]; simp [go_sem]
  have hci : W4.cell? ⟨W.heap.size + 1, 0, none⟩ = some (.int .i64 i) := by rw [← hO]; simp [go_sem]
  have hcx : W4.heap[W.heap.size + 3]? = some (.cells (Lib.byteCells X).toArray 58 (0, 0)) := by
    rw [← hO]
    have := Go.heap_alloc_new (((W.alloc (Obj.cells #[Value.pointer (some { block := b, off := 0 })] 23)).alloc (Obj.cells #[Value.int IntKind.i64 (i : Int)] 3)).alloc (Obj.cells #[Value.int IntKind.i64 0] 25)) (Obj.cells (Lib.byteCells X).toArray 58)
    simpa using this
  have hsz : W4.heap.size = W.heap.size + 4 := by rw [← hO]; simp
  have hlt := fun k (hk : Foot b g bm k) => HH.out.lt hk
  have hne : ∀ j, ¬ Foot b g bm (W.heap.size + j) := fun j hj => by have := hlt _ hj; omega
  rw [show W.heap.size + 1 + 1 = W.heap.size + 2 from rfl]
  refine leaves_cons (f := 28) (args := #[.pointer (some ⟨b, 0, none⟩), .pointer (some ⟨W.heap.size + 2, 0, none⟩), .func (.func 29) #[] #[.pointer (some ⟨W.heap.size + 2 + 1, 0, none⟩), .pointer (some ⟨W.heap.size, 0, none⟩), .pointer (some ⟨W.heap.size + 1, 0, none⟩)]]) (by simp) (by simp [go_sem]) ?_
  unfold burn
  by_cases hfu : D.fuse = 1
  · rw [if_pos hfu]
    refine (burnt_out hi (W.heap.size + 2) hc hf (hne 2) hfu _ _).mono ?_
    rintro e u' w'' ⟨rfl, rfl, hi2, hc2, hk2⟩
    exact ⟨_, err_cell rfl hc2, rfl, hi2, hk.then (hk2.mono fun k hk => hk.imp id (fun e => by omega))⟩
  · rw [if_neg hfu]
    obtain ⟨_, _, hlt2⟩ := within_zero H0.out
    refine (burnt_do hi (W.heap.size + 2) hc (hne 2) hfu (put i X) _ _ (run_put _) (fun W' hi' hk' => ?_) _).mono ?_
    · refine put_any hi' i (by simpa using hlt2) X hXl _ _ _ ?_ ?_ ?_
      · exact (hk'.block _ (by omega) (hne 3)).trans hcx
      · exact (hk'.cell (p := ⟨W.heap.size, 0, none⟩) (by show W.heap.size < _; omega) (hne 0)).trans hcd
      · exact (hk'.cell (p := ⟨W.heap.size + 1, 0, none⟩) (by show W.heap.size + 1 < _; omega) (hne 1)).trans hci
    · rintro e u' w'' ⟨rfl, rfl, hi2, hc2, hk2⟩
      exact ⟨_, err_cell rfl hc2, rfl, hi2, hk.then (hk2.mono fun k hk => hk.imp id (fun e => by omega))⟩

theorem write_any (h : IsDisk W b g bm D) (i : Int) (s : ByteArray) (hs : s.size ≤ 9223372036854775807) : Calls Try.prog 10 #[.pointer (some ⟨b, 0, none⟩), .int .i64 i, .string s] W fun e w' => e = .returned (.int .i64 (write D i s.data.toList).2) ∧ IsDisk w' b g bm (write D i s.data.toList).1 ∧ Kp (Foot b g bm) W w' := by
  have hsl : s.data.toList.length = s.size := by rw [Array.length_toList]; rfl
  unfold write
  by_cases h0 : within D i = 0
  · rw [if_neg (by simpa using h0)]
    by_cases hl : 64 < s.size
    · rw [hsl, if_pos hl]
      exact write_long h i s h0 hl hs
    · rw [hsl, if_neg hl]
      obtain ⟨k, rfl⟩ := Int.eq_ofNat_of_zero_le (within_zero h0).2.1
      exact write_ok h k s h0 (by omega)
  · rw [if_pos h0]
    exact write_no h i s h0
end Go.Proofs.Ytoafebndlldclaa.Dk
