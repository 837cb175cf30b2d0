/- The call of the document's disk's New. -/
import Derived.Test.YtoafebndlldclaaRefB
import Derived.Deep.RegionLaw
import Derived.Deep.AppendLies
namespace Go.Proofs.Ytoafebndlldclaa.Dk
open Go Go.RowKit Go.ChangeMaps Go.MapKept

theorem owns_below {w w' : World} {base : Nat} {e : TypeId} {s : Nat} {v : Value} {n : Nat} {xs : List Value} (h : w.ownsRow base e s v n xs) (k : Below w.heap.size w w') : w'.ownsRow base e s v n xs :=
  h.kept (row := none) ⟨k.os, k.tape, k.output, k.size, fun j hj _ => k.block j hj⟩ (by cases v.ownBlock <;> simp)
theorem grown_below {w w' : World} {row : Option Nat} {base : Nat} (h : w.grownBy w' row) (hb : base ≤ w.heap.size) (hr : ∀ k, row = some k → base ≤ k) : Below base w w' :=
  (Below.refl _ _).grown h hb hr

/-- behind k rounds -/
structure NewAt (W : World) (b k1 k2 k3 : Nat) (wr : World) (v1 v2 v3 : Value) : Prop where
  hb : W.heap.size ≤ b
  blk : wr.heap[b]? = some (.cells #[v1, v2, v3, .int .i64 0, .bool false] 50 (0, 0))
  o1 : wr.ownsRow W.heap.size 9 1 v1 k1 (List.replicate k1 (txt (zeros 64)))
  o2 : wr.ownsRow W.heap.size 9 1 v2 k2 (List.replicate k2 (.string ⟨#[]⟩))
  o3 : wr.ownsRow W.heap.size 4 1 v3 k3 (List.replicate k3 (.bool false))
  ne : ∀ g, v1.ownBlock = some g → v2.ownBlock ≠ some g
  bel : Below W.heap.size W wr

theorem own_type {w : World} {base : Nat} {e : TypeId} {v : Value} {n g : Nat} {xs : List Value} (h : w.ownsRow base e 1 v n xs) (hg : v.ownBlock = some g) : ∃ cur, w.heap[g]? = some (.cells cur e (0, 0)) := by
  rcases h.2 with ⟨rfl, hz⟩ | ⟨q, cap, cur, rfl, hq, hb, k1, k2, k3, k4⟩
  · cases hg
  · cases hg; exact ⟨cur, hb⟩
theorem own_ne {w : World} {base b2 : Nat} {e e' : TypeId} {v v' : Value} {n n' : Nat} {xs xs' : List Value} (h : w.ownsRow base e 1 v n xs) (h' : w.ownsRow b2 e' 1 v' n' xs') (he : e ≠ e') : ∀ g, v.ownBlock = some g → v'.ownBlock ≠ some g := by
  intro g hg hg'
  obtain ⟨c, k⟩ := own_type h hg
  obtain ⟨c', k'⟩ := own_type h' hg'
  rw [k] at k'
  simp only [Option.some.injEq, Obj.cells.injEq] at k'
  exact he k'.2.1
theorem own_no {w : World} {base b : Nat} {e e' : TypeId} {v : Value} {n : Nat} {xs : List Value} {cs : Array Value} (h : w.ownsRow base e 1 v n xs) (hb : w.heap[b]? = some (.cells cs e' (0, 0))) (he : e ≠ e') : v.ownBlock ≠ some b := by
  intro hg
  obtain ⟨c, k⟩ := own_type h hg
  rw [k] at hb
  simp only [Option.some.injEq, Obj.cells.injEq] at hb
  exact he hb.2.1
theorem own_set {w : World} {base b i : Nat} {e : TypeId} {v u : Value} {n : Nat} {xs : List Value} (h : w.ownsRow base e 1 v n xs) (hb : v.ownBlock ≠ some b) : (w.setCell ⟨b, i, none⟩ u).ownsRow base e 1 v n xs :=
  h.kept (row := some b) ⟨rfl, rfl, rfl, by simp [World.setCell], fun k _ hne => Below.heap_setCell _ _ _ _ (fun e => hne (by rw [e]))⟩ (.inr hb)
theorem own_kept {w w' : World} {base : Nat} {e : TypeId} {v : Value} {row : Option Nat} {n : Nat} {xs : List Value} (h : w.ownsRow base e 1 v n xs) (hg : w.grownBy w' row) (hne : ∀ g, row = some g → v.ownBlock ≠ some g) : w'.ownsRow base e 1 v n xs := by
  refine h.kept hg ?_
  cases hv : v.ownBlock with
  | none => exact .inl rfl
  | some g => exact .inr fun e => hne g e.symm hv

section
variable {W w w' : World} {b k1 k2 k3 g cap : Nat} {v1 v2 v3 : Value}
theorem NewAt.lt (h : NewAt W b k1 k2 k3 w v1 v2 v3) : b < w.heap.size := (Array.getElem?_eq_some_iff.1 h.blk).1
theorem NewAt.below (h : NewAt W b k1 k2 k3 w v1 v2 v3) (k : Below w.heap.size w w') : NewAt W b k1 k2 k3 w' v1 v2 v3 :=
  ⟨h.hb, (k.block b h.lt).trans h.blk, owns_below h.o1 k, owns_below h.o2 k, owns_below h.o3 k, h.ne, h.bel.trans (k.mono h.bel.size)⟩
theorem NewAt.cell (h : NewAt W b k1 k2 k3 w v1 v2 v3) (j : Nat) : w.cell? ⟨b, j, none⟩ = (#[v1, v2, v3, .int .i64 0, .bool false] : Array Value)[j]? := cell_of_row w b j _ _ _ h.blk
theorem NewAt.free (h : NewAt W b k1 k2 k3 w v1 v2 v3) (j : Nat) : w.frozen? ⟨b, j, none⟩ = false := frozen_of_row w b j _ _ h.blk
theorem NewAt.kept1 (h : NewAt W b k1 k2 k3 w v1 v2 v3) {v : Value} (hg : w.grownBy w' v.ownBlock) (hv : v = v1 ∨ v = v2 ∨ v = v3) : w'.heap[b]? = some (.cells #[v1, v2, v3, .int .i64 0, .bool false] 50 (0, 0)) ∧ Below W.heap.size W w' := by
  have hn : v.ownBlock ≠ some b := by
    rcases hv with rfl | rfl | rfl
    · exact own_no h.o1 h.blk (by decide)
    · exact own_no h.o2 h.blk (by decide)
    · exact own_no h.o3 h.blk (by decide)
  refine ⟨(hg.block b h.lt (fun e => hn e.symm)).trans h.blk, h.bel.trans (grown_below hg h.bel.size fun k hk => ?_)⟩
  rcases hv with rfl | rfl | rfl
  · exact (h.o1.lt k hk).1
  · exact (h.o2.lt k hk).1
  · exact (h.o3.lt k hk).1
theorem bel_set {base : Nat} (h : Below W.heap.size W w) (hb : base = W.heap.size) (hk : base ≤ b) {i : Nat} {u : Value} : Below W.heap.size W (w.setCell ⟨b, i, none⟩ u) := by
  subst hb
  exact ⟨h.os, h.tape, h.output, by simpa [World.setCell] using h.size, fun k hk' => (Below.heap_setCell _ _ _ _ (by show k ≠ b; omega)).trans (h.block k hk')⟩

theorem NewAt.push1 (h : NewAt W b k1 k2 k3 w v1 v2 v3) (hg : w.grownBy w' v1.ownBlock) (hown : w'.ownsRow W.heap.size 9 1 (.slice (some ⟨g, 0, none⟩) (k1 + 1) cap) (k1 + 1) (List.replicate k1 (txt (zeros 64)) ++ [txt (zeros 64)])) (hat : v1.ownBlock = some g ∨ g = w.heap.size) :
    NewAt W b (k1 + 1) k2 k3 (w'.setCell ⟨b, 0, none⟩ (.slice (some ⟨g, 0, none⟩) (k1 + 1) cap)) (.slice (some ⟨g, 0, none⟩) (k1 + 1) cap) v2 v3 := by
  obtain ⟨hblk, hbel⟩ := h.kept1 hg (.inl rfl)
  have hown2 := own_kept h.o2 hg h.ne
  have hown3 := own_kept h.o3 hg (own_ne h.o1 h.o3 (by decide))
  refine ⟨h.hb, heap_setCell_same w' b 0 _ _ _ hblk, ?_, own_set hown2 (own_no hown2 hblk (by decide)), own_set hown3 (own_no hown3 hblk (by decide)), ?_, bel_set hbel rfl h.hb⟩
  · rw [List.replicate_succ']
    exact own_set hown (own_no hown hblk (by decide))
  · intro g' hg' h2
    cases hg'
    rcases hat with e | e
    · exact h.ne _ e h2
    · have := (h.o2.lt _ h2).2
      rw [e] at this
      exact Nat.lt_irrefl _ this
theorem NewAt.push2 (h : NewAt W b k1 k2 k3 w v1 v2 v3) (hg : w.grownBy w' v2.ownBlock) (hown : w'.ownsRow W.heap.size 9 1 (.slice (some ⟨g, 0, none⟩) (k2 + 1) cap) (k2 + 1) (List.replicate k2 (.string ⟨#[]⟩) ++ [.string ⟨#[]⟩])) (hat : v2.ownBlock = some g ∨ g = w.heap.size) :
    NewAt W b k1 (k2 + 1) k3 (w'.setCell ⟨b, 1, none⟩ (.slice (some ⟨g, 0, none⟩) (k2 + 1) cap)) v1 (.slice (some ⟨g, 0, none⟩) (k2 + 1) cap) v3 := by
  obtain ⟨hblk, hbel⟩ := h.kept1 hg (.inr (.inl rfl))
  have hown1 := own_kept h.o1 hg (fun g h2 h1 => h.ne g h1 h2)
  have hown3 := own_kept h.o3 hg (own_ne h.o2 h.o3 (by decide))
  refine ⟨h.hb, heap_setCell_same w' b 1 _ _ _ hblk, own_set hown1 (own_no hown1 hblk (by decide)), ?_, own_set hown3 (own_no hown3 hblk (by decide)), ?_, bel_set hbel rfl h.hb⟩
  · rw [List.replicate_succ']
    exact own_set hown (own_no hown hblk (by decide))
  · intro g' hg' h2
    cases h2
    rcases hat with e | e
    · exact h.ne _ hg' e
    · have := (h.o1.lt _ hg').2
      rw [e] at this
      exact Nat.lt_irrefl _ this
theorem NewAt.push3 (h : NewAt W b k1 k2 k3 w v1 v2 v3) (hg : w.grownBy w' v3.ownBlock) (hown : w'.ownsRow W.heap.size 4 1 (.slice (some ⟨g, 0, none⟩) (k3 + 1) cap) (k3 + 1) (List.replicate k3 (.bool false) ++ [.bool false])) :
    NewAt W b k1 k2 (k3 + 1) (w'.setCell ⟨b, 2, none⟩ (.slice (some ⟨g, 0, none⟩) (k3 + 1) cap)) v1 v2 (.slice (some ⟨g, 0, none⟩) (k3 + 1) cap) := by
  obtain ⟨hblk, hbel⟩ := h.kept1 hg (.inr (.inr rfl))
  have hown1 := own_kept h.o1 hg (own_ne h.o3 h.o1 (by decide))
  have hown2 := own_kept h.o2 hg (own_ne h.o3 h.o2 (by decide))
  refine ⟨h.hb, heap_setCell_same w' b 2 _ _ _ hblk, own_set hown1 (own_no hown1 hblk (by decide)), own_set hown2 (own_no hown2 hblk (by decide)), ?_, h.ne, bel_set hbel rfl h.hb⟩
  rw [List.replicate_succ']
  exact own_set hown (own_no hown hblk (by decide))
end
def NewInv (W : World) (b n : Nat) (i : Value) (wr : World) : Prop := ∃ (k : Nat) (v1 v2 v3 : Value), i = .int .i64 k ∧ k ≤ n ∧ NewAt W b k k k wr v1 v2 v3

theorem string_info : (Try.prog.info? 9).map (fun i => (i.zero, i.size, i.bytes)) = some (some (.string ⟨#[]⟩), 1, 16) := by kernel_rfl
theorem bool_info : (Try.prog.info? 4).map (fun i => (i.zero, i.size, i.bytes)) = some (some (.bool false), 1, 1) := by kernel_rfl

theorem cell_one_set (w : World) (p : Addr) (u x : Value) (t : TypeId) : ∀ (j : Nat) (v : Value), [x][j]? = some v → ((w.setCell p u).alloc (.cells #[x] t)).cell? ((⟨w.heap.size, 0, none⟩ : Addr).add j) = some v := by
  have h := cell_one_new (w.setCell p u) x t
  have e : (w.setCell p u).heap.size = w.heap.size := by simp [World.setCell]
  rw [e] at h
  exact h
theorem owns_cells {w : World} {base : Nat} {e : TypeId} {v : Value} {n : Nat} {xs : List Value} (h : w.ownsRow base e 1 v n xs) (hn : 0 < n) : ∃ g cap cur, v = .slice (some ⟨g, 0, none⟩) n cap ∧ base ≤ g ∧ w.heap[g]? = some (.cells cur e (0, 0)) ∧ ∀ (j : Nat) (u : Value), xs[j]? = some u → cur[j]? = some u := by
  rcases h.2 with ⟨rfl, hz⟩ | ⟨q, cap, cur, rfl, hq, hb, k1, k2, k3, k4⟩
  · omega
  · refine ⟨q, cap, cur, rfl, hq, hb, fun j u hu => ?_⟩
    rw [← k4, List.getElem?_take] at hu
    split at hu
    · simpa using hu
    · cases hu

theorem NewAt.done {W wr : World} {b n : Nat} {v1 v2 v3 : Value} (h : NewAt W b n n n wr v1 v2 v3) (h1 : 1 ≤ n) (h2 : n ≤ 4096) : ∃ B : RB, B.b = b ∧ IsRef wr B (new n) ∧ ∀ k, FootR B k → W.heap.size ≤ k := by
  obtain ⟨g1, p1, c1, rfl, b1, k1, e1⟩ := owns_cells h.o1 (by omega)
  obtain ⟨g2, p2, c2, rfl, b2, k2, e2⟩ := owns_cells h.o2 (by omega)
  obtain ⟨g3, p3, c3, rfl, b3, k3, e3⟩ := owns_cells h.o3 (by omega)
  refine ⟨⟨b, g1, p1, g2, p2, g3, p3⟩, rfl, ⟨new_ok h1 h2, ?_, ⟨c1, k1, fun j s hj => ?_⟩, ⟨c2, k2, fun j x hj => ?_⟩, ⟨c3, k3, fun j x hj => ?_⟩, fun e => h.ne g1 rfl (by rw [show g2 = g1 from e.symm]; rfl)⟩, ?_⟩
  · simpa [new] using h.blk
  · refine e1 j _ ?_
    simp only [new, List.getElem?_replicate] at hj ⊢
    split at hj
    · cases hj; simp [*]
    · cases hj
  · simp only [new, List.getElem?_replicate] at hj
    split at hj
    · rename_i hlt
      cases hj
      exact ⟨⟨#[]⟩, e2 j _ (by simp [hlt]), fun y hy => by cases hy⟩
    · cases hj
  · simp only [new, List.getElem?_replicate] at hj
    split at hj
    · rename_i hlt
      cases hj
      exact e3 j _ (by simp [hlt])
    · cases hj
  · intro k hk
    rcases hk with rfl | rfl | rfl | rfl
    · exact h.hb
    · exact b1
    · exact b2
    · exact b3

set_option maxRecDepth 100000 in
set_option maxHeartbeats 1000000 in
theorem rnew_none (n : Int) (h : n < 1 ∨ 4096 < n) (W : World) : Calls Try.prog 18 #[.int .i64 n] W fun e w' => e = .returned (.pointer none) ∧ W = w' := by
  by_cases h1 : n < 1
  · go_enter Try.func18, Try.ntmps18
    go_wp2
    go_ret
    exact ⟨rfl, rfl⟩
  · have h2 : 4096 < n := by omega
    go_enter Try.func18, Try.ntmps18
    go_wp2
    go_ret
    exact ⟨rfl, rfl⟩

set_option maxRecDepth 100000 in
set_option maxHeartbeats 4000000 in
theorem rnew_some (n : Nat) (h1 : 1 ≤ n) (h2 : n ≤ 4096) (W : World) : Calls Try.prog 18 #[.int .i64 n] W fun e w' => ∃ B : RB, e = .returned (.pointer (some ⟨B.b, 0, none⟩)) ∧ IsRef w' B (new n) ∧ Below W.heap.size W w' ∧ ∀ k, FootR B k → W.heap.size ≤ k := by
  obtain ⟨i1, hi1, hz1, hz2, hz3⟩ := info_parts string_info
  obtain ⟨i3, hi3, hy1, hy2, hy3⟩ := info_parts bool_info
  obtain ⟨zz, hzz, hzs⟩ := zeros_text 64
  have hz : ∀ W, Calls Try.prog 33 #[.int .i64 64] W fun e w' => e = .returned (.string zz) ∧ Below W.heap.size W w' := fun W => by
    rw [hzz]; exact rzeros_any 64 (by omega) W
  have HZ := Lib.hid hz
  have HZZ : Hid (Value.string zz = txt (zeros 64)) := by show _ = _; rw [hzz]; rfl
  clear hz hzz hzs
  go_enter Try.func18, Try.ntmps18
  go_wp2_with fail
  go_loopw [4] (fun i wr => NewInv W W.heap.size n i wr) (fun i _ => n - (intOf i).toNat)
  case atStart =>
    exact ⟨0, .slice none 0 0, .slice none 0 0, .slice none 0 0, rfl, Nat.zero_le _, Nat.le_refl _, Go.heap_alloc_new _ _, World.ownsRow_nil _ _ _ _, World.ownsRow_nil _ _ _ _, World.ownsRow_nil _ _ _ _, by simp [Value.ownBlock], (Below.refl _ _).alloc (Nat.le_refl _) _⟩
  case round =>
    obtain ⟨k, v1, v2, v3, rfl, hk, hat⟩ := hrel
    have HA := Lib.hid hat
    have hbk := hat.blk
    have c0 : wr.cell? ⟨W.heap.size, 0, none⟩ = some v1 := cell_of_row wr _ 0 _ _ _ hbk
    by_cases hlt : k < n
    · have hki : (k : Int) < (n : Int) := by omega
      have hw0 := hat.bel.size
      have HD := Lib.hid (hat.below (Below.refl _ _).drew)
      clear hat hbk HA
      go_wp2_with fail
      go_region_law (first
        | (refine step_append_lies _ (by rfl) _ _ 48 (by rfl) W.heap.size 9 i1 _ 1 16 Try.underlying48 hi1 hz1 hz2 hz3 rfl (by omega) v1 k _ (by rfl) HE.out.o1
            ⟨w2.heap.size, 0, none⟩ 1 1 [.string zz] (by rfl) (by rfl) (World.news_of_block (cs := #[.string zz]) (t := 9) (fr := (0, 0)) (heap_alloc_new w2 _)) (by simp [Value.oneCell'])
            (by omega) (by unfold maxLen; omega) (by omega) (by simp; omega) (w2.heap.size + 1) (by simp) ?_; intro g1 cap1 w3 hown3 hgrow3 hat3 hlt3; have hx := HE.out.kept1 hgrow3 (.inl rfl); have x0 := cell_of_row w3 W.heap.size 0 _ _ _ hx.1; have x1 := frozen_of_row w3 W.heap.size 0 _ _ hx.1)
        | (go_simp; go_at_call 33; refine (HZ.out _).mono ?_; rintro e w2 ⟨rfl, hb2⟩; have HE := Lib.hid ((HD.out.below hb2).below ((Below.refl _ _).alloc (Nat.le_refl _) (.cells #[.string zz] 9))); have hs2 := (HD.out.below hb2).bel.size; have y0 : w2.cell? ⟨W.heap.size, 0, none⟩ = some v1 := (HD.out.below hb2).cell 0; have y1 : (w2.alloc (.cells #[.string zz] 9)).cell? ⟨W.heap.size, 0, none⟩ = some v1 := HE.out.cell 0))
      all_goals
        have hp1 := HE.out.push1 hgrow3 (by rw [HZZ.out] at hown3; exact hown3) (by simpa using hat3)
        have HP1 := Lib.hid hp1
        have d0 := hp1.cell 1
        have d0 : (w3.setCell ⟨W.heap.size, 0, none⟩ (.slice (some ⟨g1, 0, none⟩) (k + 1) cap1)).cell? ⟨W.heap.size, 1, none⟩ = some v2 := d0
        clear hp1 x0 x1 y0 y1 hx hown3 hgrow3 hat3 hlt3 HE HD hb2
        generalize w3.setCell ⟨W.heap.size, 0, none⟩ (.slice (some ⟨g1, 0, none⟩) (k + 1) cap1) = w4 at *
        go_wp2_with (first
          | (at_builtin; refine wpList_append_lies _ rfl _ _ 48 rfl W.heap.size 9 i1 _ 1 16 Try.underlying48 hi1 hz1 hz2 hz3 rfl (by omega) v2 k _ rfl ((HP1.out.below ((Below.refl _ _).alloc (Nat.le_refl _) _)).o2) ⟨w4.heap.size, 0, none⟩ 1 1 [.string ⟨#[]⟩] rfl rfl (cell_one_new _ _ _) (by simp [Value.oneCell']) (by omega) (by unfold maxLen; omega) (by omega) (by have := HP1.out.bel.size; simp; omega) (w4.heap.size + 1) (by simp) ?_; intro g2 cap2 w5 hown5 hgrow5 hat5 hlt5; have hy := (HP1.out.below ((Below.refl _ _).alloc (Nat.le_refl _) (.cells #[.string ⟨#[]⟩] 9))).kept1 hgrow5 (.inr (.inl rfl)); have x0 := cell_of_row w5 W.heap.size 1 _ _ _ hy.1; have x1 := frozen_of_row w5 W.heap.size 1 _ _ hy.1; have hp2 := (HP1.out.below ((Below.refl _ _).alloc (Nat.le_refl _) (.cells #[.string ⟨#[]⟩] 9))).push2 hgrow5 hown5 (by simpa using hat5); have HP2 := Lib.hid hp2; have z0 : (w5.setCell ⟨W.heap.size, 1, none⟩ (.slice (some ⟨g2, 0, none⟩) (k + 1) cap2)).cell? ⟨W.heap.size, 2, none⟩ = some v3 := hp2.cell 2; have z9 := hp2.bel.size; clear hp2 hown5 hgrow5 hat5 hlt5 hy)
          | (at_builtin; refine wpList_append_lies _ rfl _ _ 39 rfl W.heap.size 4 i3 _ 1 1 Try.underlying39 hi3 hy1 hy2 hy3 rfl (by omega) v3 k _ rfl ((HP2.out.below ((Below.refl _ _).alloc (Nat.le_refl _) _)).o3) ⟨w5.heap.size, 0, none⟩ 1 1 [.bool false] rfl rfl (cell_one_set _ _ _ _ _) (by simp [Value.oneCell']) (by omega) (by unfold maxLen; omega) (by omega) (by rw [World.size_alloc]; omega) _ rfl ?_; intro g3 cap3 w7 hown7 hgrow7 hat7 hlt7; have hy := (HP2.out.below ((Below.refl _ _).alloc (Nat.le_refl _) (.cells #[.bool false] 4))).kept1 hgrow7 (.inr (.inr rfl)); have q0 := cell_of_row w7 W.heap.size 2 _ _ _ hy.1; have q1 := frozen_of_row w7 W.heap.size 2 _ _ hy.1; have hp3 := (HP2.out.below ((Below.refl _ _).alloc (Nat.le_refl _) (.cells #[.bool false] 4))).push3 hgrow7 hown7; have HP3 := Lib.hid hp3; clear hp3 hown7 hgrow7 hat7 hlt7 hy))
        go_roundw
        case rel => exact ⟨k + 1, _, _, _, by go_num, hlt, HP3.out⟩
        case measure => simp [intOf]; omega
    · have hke : k = n := by omega
      subst hke
      obtain ⟨B, hB, hR, hF⟩ := hat.done h1 h2
      have hnl : ¬ (k : Int) < (k : Int) := by omega
      have HR := Lib.hid hR
      have HBL := Lib.hid hat.bel
      have HB := Lib.hid hB
      clear hat hbk hlt hR hB
      go_wp2_with fail
      go_ret
      exact ⟨B, by rw [HB.out]; rfl, HR.out, HBL.out, hF⟩
end Go.Proofs.Ytoafebndlldclaa.Dk
