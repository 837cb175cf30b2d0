/- The call of wal.Open is proved: it does what openL does. -/
import Derived.Test.YtoafebndlldclaaDoorClean
import Derived.Test.YtoafebndlldclaaDoorSb
import Derived.Test.YtoafebndlldclaaDoorPa
import Derived.Test.YtoafebndlldclaaDoorSe
namespace Go.Proofs.YtoafebndlldclaaDoor.Wl
open Go Go.RowKit Go.Shelf Dk Sn
attribute [local go_sem] Oper.semAt_some

/-- a log in memory -/
def IsLog (W : World) (lb b : Nat) (L : LS) : Prop := W.heap[lb]? = some (.cells #[.pointer (some ⟨b, 0, none⟩), .int .i64 L.fr, .int .i64 L.to_, .int .u64 L.ep, .int .u64 L.many, .int .i64 L.en, .string ⟨L.last.toArray⟩, .bool L.over] 102 (0, 0))
/-- a slice of texts of the call's own -/
def Texts (W : World) (base : Nat) (v : Value) (l : List Bs) : Prop := W.ownsRow base 9 1 v l.length (l.map fun t => .string ⟨t.toArray⟩)
def LogAt (W : World) (base b : Nat) (p : Option Addr) : Option LS → Prop
  | none => p = none
  | some L => ∃ lb, p = some ⟨lb, 0, none⟩ ∧ base ≤ lb ∧ IsLog W lb b L
def OpenPost (w : World) (b g bm : Nat) (R : DS × Option LS × List Bs × Int) (e : Ending) (w' : World) : Prop :=
  ∃ (p : Option Addr) (v : Value), e = .returned (.tuple #[.pointer p, v, .int .i64 R.2.2.2]) ∧ IsDisk w' b g bm R.1 ∧ Kp (Foot b g bm) w w' ∧ Texts w' w.heap.size v R.2.2.1 ∧ LogAt w' w.heap.size b p R.2.1

variable {w : World} {b g bm : Nat} {D : DS}

theorem open_none (W : World) (hW : Kp (Foot b g bm) w W) (hd : IsDisk W b g bm D) (x : Int) : OpenPost w b g bm (D, none, [], x) (.returned (.tuple #[.pointer none, .slice none 0 0, .int .i64 x])) W :=
  ⟨none, _, rfl, hd, hW, World.ownsRow_nil _ _ _ _, rfl⟩

theorem openL_bad {fr to_ : Int} (ep : Nat) (h : fr < 0 ∨ to_ ≤ fr ∨ (D.olds.length : Int) < to_) : openL D fr to_ ep = (D, none, [], 1) := by unfold openL; rw [if_pos h]

set_option maxRecDepth 100000 in
set_option maxHeartbeats 4000000 in
theorem open_bad (h : IsDisk w b g bm D) (fr to_ : Int) (ep : Nat) (hb : fr < 0 ∨ to_ ≤ fr ∨ (D.olds.length : Int) < to_) :
    Calls Tryd.prog 13 #[.pointer (some ⟨b, 0, none⟩), .int .i64 fr, .int .i64 to_, .int .u64 ep] w (OpenPost w b g bm (D, none, [], 1)) := by
  have HL := Lib.hid (len_any h)
  have HF := Lib.hid (open_none w (Kp.refl _ w) h 1)
  clear h
  obtain ⟨n, hn⟩ : ∃ n : Nat, n = D.olds.length := ⟨_, rfl⟩
  rw [← hn] at hb HL
  clear hn
  by_cases h0 : fr < 0
  · go_enter Tryd.func13, Tryd.ntmps13
    go_wp2
    go_ret3
    exact HF.out
  · by_cases h1 : to_ ≤ fr
    · go_enter Tryd.func13, Tryd.ntmps13
      go_wp2
      go_ret3
      exact HF.out
    · have h2 : (n : Int) < to_ := by omega
      have h3 : ¬ fr ≥ to_ := by omega
      clear hb
      go_enter Tryd.func13, Tryd.ntmps13
      go_wp2_with (go_at_call 45; refine HL.out.mono ?_; rintro e w' ⟨rfl, rfl⟩)
      go_ret3
      exact HF.out

theorem builder_grown {B b : Nat} {bs : List Value} {X Y : World} {row : Option Nat} (h : Lib.IsBuilderF TB TU B b bs X) (hg : X.grownBy Y row) (hr : ∀ r, row = some r → ∃ o : Obj, X.heap[r]? = some o ∧ o.isCells = false) : Lib.IsBuilderF TB TU B b bs Y := by
  have one : ∀ p, Lib.BuilderAtF TB TU B b p bs X → Lib.BuilderAtF TB TU B b p bs Y := by
    rintro p ⟨hB, v, hbk, hown, hne⟩
    have hnb : row ≠ some b := fun e => by
      obtain ⟨o, ho, hc⟩ := hr b e
      rw [hbk] at ho
      cases ho
      cases hc
    refine ⟨hB, v, (hg.block b (Array.getElem?_eq_some_iff.1 hbk).1 (fun e => hnb e.symm)).trans hbk, hown.kept hg ?_, hne⟩
    rcases hown.2 with ⟨rfl, _⟩ | ⟨g, cap, cur, fz, rfl, _, hgg, _⟩
    · exact .inl rfl
    · refine .inr fun e => ?_
      obtain ⟨o, ho, hc⟩ := hr g e.symm
      rw [hgg] at ho
      cases ho
      cases hc
  exact h.elim (fun k => .inl (one _ k)) (fun k => .inr (one _ k))


theorem builder_same {B b : Nat} {bs : List Value} {X Y : World} (h : Lib.IsBuilderF TB TU B b bs X) (hs : ∀ k o, B ≤ k → X.heap[k]? = some o → (∃ cs fr, o = .cells cs TU fr ∨ o = .cells cs TB fr) → Y.heap[k]? = some o) : Lib.IsBuilderF TB TU B b bs Y := by
  have one : ∀ p, Lib.BuilderAtF TB TU B b p bs X → Lib.BuilderAtF TB TU B b p bs Y := by
    rintro p ⟨hB, v, hbk, hown, hne⟩
    refine ⟨hB, v, hs _ _ hB hbk ⟨_, _, .inr rfl⟩, ⟨hown.1, ?_⟩, hne⟩
    rcases hown.2 with hn | ⟨g, cap, cur, fz, hv, hbg, hgg, rest⟩
    · exact .inl hn
    · exact .inr ⟨g, cap, cur, fz, hv, hbg, hs _ _ hbg hgg ⟨_, _, .inl rfl⟩, rest⟩
  exact h.elim (fun k => .inl (one _ k)) (fun k => .inr (one _ k))

/-- the bytes that Open reads -/
def seenB (D : DS) (fr to_ : Nat) : Bs := if D.off = true then [] else bytesOf D fr (to_ - fr)

/-- between two rounds of the reading loop: blocks A (the area), A + 1 (the builder), A + 2 (the iterator's area) -/
structure ReadAt (w : World) (b g bm fr to_ : Nat) (D : DS) (pre : List Sec) (W : World) : Prop where
  area : Area W w.heap.size b fr to_
  area2 : Area W (w.heap.size + 2) b fr to_
  disk : IsDisk W b g bm D
  bld : Lib.IsBuilderF TB TU (w.heap.size + 1) (w.heap.size + 1) (Lib.byteCells (bytesOf D fr pre.length)) W
  bel : Below w.heap.size w W
  up : pre ≠ [] → D.off = false

theorem ReadAt.grown {fr to_ : Nat} {pre : List Sec} {W W' : World} {row : Option Nat} (h : ReadAt w b g bm fr to_ D pre W) (hlow : ∀ k, Foot b g bm k → k < w.heap.size) (hg : W.grownBy W' row) (hr : ∀ r, row = some r → w.heap.size + 3 ≤ r ∧ ∃ o : Obj, W.heap[r]? = some o ∧ o.isCells = false) : ReadAt w b g bm fr to_ D pre W' :=
  ⟨blk_grown h.area hg (fun r e => by have := (hr r e).1; omega), blk_grown h.area2 hg (fun r e => by have := (hr r e).1; omega), disk_grown h.disk hg (fun r e hf => by have := (hr r e).1; have := hlow r hf; omega), builder_grown h.bld hg (fun r e => (hr r e).2), h.bel.grown hg h.bel.size (fun r e => by have := (hr r e).1; omega), h.up⟩

/-- behind the reading loop -/
structure Aft (w : World) (b g bm fr to_ D2 : Nat) (s : Bs) (D : DS) (W : World) : Prop where
  area : Area W w.heap.size b fr to_
  disk : IsDisk W b g bm D
  bld : Lib.IsBuilderF TB TU (w.heap.size + 1) (w.heap.size + 1) (Lib.byteCells s) W
  kp : Kp (Foot b g bm) w W
  dfr : W.heap[D2]? = some (.deferred (some []))

section
variable {fr to_ D2 : Nat} {s : Bs} {W W' : World} {D' : DS}
theorem Aft.lt (h : Aft w b g bm fr to_ D2 s D W) : w.heap.size + 1 < W.heap.size := by
  rcases h.bld with k | k
  · exact k.lt
  · exact k.lt
theorem Aft.same (h : Aft w b g bm fr to_ D2 s D W) (hlow : ∀ k, Foot b g bm k → k < w.heap.size) (hD2 : w.heap.size ≤ D2) (hk : Kp (Foot b g bm) W W') (hd : IsDisk W' b g bm D') : Aft w b g bm fr to_ D2 s D' W' :=
  ⟨(hk.block _ (Array.getElem?_eq_some_iff.1 h.area).1 (fun hf => by have := hlow _ hf; omega)).trans h.area, hd,
    builder_same h.bld (fun k o hB ho _ => (hk.block _ (Array.getElem?_eq_some_iff.1 ho).1 (fun hf => by have := hlow _ hf; omega)).trans ho), h.kp.trans hk,
    (hk.block _ (Array.getElem?_eq_some_iff.1 h.dfr).1 (fun hf => by have := hlow _ hf; omega)).trans h.dfr⟩
theorem Aft.below (h : Aft w b g bm fr to_ D2 s D W) (hlow : ∀ k, Foot b g bm k → k < w.heap.size) (hD2 : w.heap.size ≤ D2) (hk : Below W.heap.size W W') : Aft w b g bm fr to_ D2 s D W' := h.same hlow hD2 (.of_below hk) (h.disk.below hk)
theorem Aft.read (h : Aft w b g bm fr to_ D2 s D W) (hlow : ∀ k, Foot b g bm k → k < w.heap.size) (hl : StringLeft (w.heap.size + 1) (w.heap.size + 1) s W W') : Aft w b g bm fr to_ D2 s D W' := by
  obtain ⟨k1, k2, k3⟩ := hl
  have hsz := k2.size
  have hkp : Kp (Foot b g bm) w W' := ⟨k2.os.trans h.kp.os, k2.tape.trans h.kp.tape, k2.output.trans h.kp.output, Nat.le_trans h.kp.size k2.size, fun k hk hf => (k2.block k (by omega)).trans (h.kp.block k hk hf)⟩
  refine ⟨(k2.block _ (by omega)).trans h.area, h.disk.same k2.size (fun k hk => k2.block k (by have := hlow k hk; omega)), k1, hkp, k3 _ _ ?_ h.dfr (fun cs fr e => by cases e)⟩
  rintro rfl
  rcases h.bld with ⟨_, v, hbk, _⟩ | ⟨_, v, hbk, _⟩
  · have := h.dfr.symm.trans hbk; cases this
  · have := h.dfr.symm.trans hbk; cases this
end

/-- a piece of code that ends as it should -/
def OnlyNormal (K : Act → World → Prop) : Exit → Act → World → Prop
  | .normal, a, w => K a w
  | _, _, _ => False
theorem only_normal {c : Code} {F : Fence} {n : Nat} {P : Program} {K : Act → World → Prop} {Q : Exit → Act → World → Prop} {a : Act} {w : World} (h : c.wpIn F n P (OnlyNormal K) a w) : c.wpIn F n P (Exit.then K Q) a w :=
  wpIn_mono h (by rintro e a V hp; cases e <;> first | exact hp | exact hp.elim)
theorem only_elim {K : Act → World → Prop} {a : Act} {w : World} (h : K a w) : OnlyNormal K .normal a w := h

theorem row_keep {W W' : World} {base k n m : Nat} {T : TypeId} {v : Value} {xs : List Value} {o : Obj} (h : W.ownsRow base T n v m xs) (hg : W.grownBy W' v.ownBlock) (ho : W.heap[k]? = some o) (hn : ∀ cs fr, o ≠ .cells cs T fr) : W'.heap[k]? = some o := by
  refine (hg.block k (Array.getElem?_eq_some_iff.1 ho).1 ?_).trans ho
  rcases h.2 with ⟨rfl, _⟩ | ⟨g, cap, cur, rfl, _, hgg, _⟩
  · simp [Value.ownBlock]
  · intro e
    simp only [Value.ownBlock, Option.some.injEq] at e
    subst e
    rw [hgg] at ho
    exact hn _ _ (Option.some.inj ho).symm
theorem row_kp {W W' : World} {base n m : Nat} {T : TypeId} {v : Value} {xs : List Value} (h : W.ownsRow base T n v m xs) (hk : Kp (Foot b g bm) W W') (hb : ∀ k, base ≤ k → ¬ Foot b g bm k) : W'.ownsRow base T n v m xs := by
  refine ⟨h.1, ?_⟩
  rcases h.2 with hn | ⟨g', cap, cur, hv, hbg, hgg, rest⟩
  · exact .inl hn
  · exact .inr ⟨g', cap, cur, hv, hbg, (hk.block _ (Array.getElem?_eq_some_iff.1 hgg).1 (hb _ hbg)).trans hgg, rest⟩

theorem Aft.rowed {fr to_ D2 n m : Nat} {s : Bs} {W W' : World} {v : Value} {xs : List Value} (h : Aft w b g bm fr to_ D2 s D W) (hlow : ∀ k, Foot b g bm k → k < w.heap.size) (hr : W.ownsRow w.heap.size 9 m v n xs) (hg : W.grownBy W' v.ownBlock) : Aft w b g bm fr to_ D2 s D W' :=
  ⟨row_keep hr hg h.area (fun cs f e => by simp only [Obj.cells.injEq] at e; exact absurd e.2.1 (by decide)),
    h.disk.same hg.size (fun k hk => hg.block k (h.disk.lt hk) (fun e => by have := (hr.lt k e.symm).1; have := hlow k hk; omega)),
    builder_same h.bld (fun k o hB ho hc => row_keep hr hg ho (fun cs f e => by
      obtain ⟨c2, f2, hc⟩ := hc
      rw [e] at hc
      simp only [Obj.cells.injEq] at hc
      rcases hc with hc | hc
      · exact absurd hc.2.1 (by decide)
      · exact absurd hc.2.1 (by decide))),
    h.kp.grownBy hg (fun j e => .inr (hr.lt j e).1), row_keep hr hg h.dfr (fun cs f e => by cases e)⟩
theorem infoS : (Tryd.prog.info? 9).map (fun i => (i.zero, i.size, i.bytes)) = some (some (.string ⟨#[]⟩), 1, 16) := by kernel_rfl

theorem row_ne {W : World} {b1 b2 s1 s2 n1 n2 : Nat} {T1 T2 : TypeId} {v1 v2 : Value} {x1 x2 : List Value} (h1 : W.ownsRow b1 T1 s1 v1 n1 x1) (h2 : W.ownsRow b2 T2 s2 v2 n2 x2) (hT : T1 ≠ T2) : v1.ownBlock = none ∨ v1.ownBlock ≠ v2.ownBlock := by
  rcases h1.2 with ⟨rfl, _⟩ | ⟨g, cap, cur, rfl, _, hg, _⟩
  · exact .inl rfl
  · refine .inr fun e => ?_
    rcases h2.2 with ⟨rfl, _⟩ | ⟨g', cap', cur', rfl, _, hg', _⟩
    · simp [Value.ownBlock] at e
    · simp only [Value.ownBlock, Option.some.injEq] at e
      subst e
      have := hg.symm.trans hg'
      simp only [Option.some.injEq, Obj.cells.injEq] at this
      exact hT this.2.1

theorem row_kpu {W W' : World} {base n m c : Nat} {T : TypeId} {v : Value} {xs : List Value} (h : W.ownsRow base T n v m xs) (hk : KpU c W W') (hc : ∃ cs f, W.heap[c]? = some (.cells cs TB f)) (hT : T ≠ TU) (hT2 : T ≠ TB) : W'.ownsRow base T n v m xs := by
  refine ⟨h.1, ?_⟩
  rcases h.2 with hn | ⟨g', cap, cur, hv, hbg, hgg, rest⟩
  · exact .inl hn
  · refine .inr ⟨g', cap, cur, hv, hbg, hk _ _ ?_ hgg (fun cs f e => by simp only [Obj.cells.injEq] at e; exact hT e.2.1), rest⟩
    rintro rfl
    obtain ⟨cs, f, h2⟩ := hc
    have := hgg.symm.trans h2
    simp only [Option.some.injEq, Obj.cells.injEq] at this
    exact hT2 this.2.1
theorem Aft.bcell {fr to_ D2 : Nat} {s : Bs} {W : World} (h : Aft w b g bm fr to_ D2 s D W) : ∃ cs f, W.heap[w.heap.size + 1]? = some (.cells cs TB f) := by
  rcases h.bld with ⟨_, v, hb, _⟩ | ⟨_, v, hb, _⟩
  · exact ⟨_, _, hb⟩
  · exact ⟨_, _, hb⟩

/-- the call's end, the log being boxed -/
theorem open_close {fr to_ D2 : Nat} {s : Bs} {w6 : World} {R : DS × Option LS × List Bs × Int} {L : LS} {l : List Bs} {v : Value} (hA : Aft w b g bm fr to_ D2 s D w6) (hlow : ∀ k, Foot b g bm k → k < w.heap.size) (hD' : w.heap.size ≤ D2)
    (hT : w6.ownsRow w.heap.size 9 1 v l.length (l.map fun t => .string ⟨t.toArray⟩)) (hR : (D, some L, l, (0 : Int)) = R) {cs : Array Value} (hcs : cs = #[.pointer (some ⟨b, 0, none⟩), .int .i64 L.fr, .int .i64 L.to_, .int .u64 L.ep, .int .u64 L.many, .int .i64 L.en, .string ⟨L.last.toArray⟩, .bool L.over]) :
    (w6.alloc (.cells cs 102)).heap[D2]? = some (.deferred (some [])) ∧
    OpenPost w b g bm R (.returned (.tuple #[.pointer (some ⟨w6.heap.size, 0, none⟩), v, .int .i64 0])) ((w6.alloc (.cells cs 102)).putObj D2 (.deferred none)) := by
  have hnf : ∀ k, w.heap.size ≤ k → ¬ Foot b g bm k := fun k hk hf => by have := hlow k hf; omega
  have hA2 := hA.below hlow hD' ((Below.refl _ _).alloc (Nat.le_refl _) (.cells cs 102))
  have hD2 : D2 < w6.heap.size := (Array.getElem?_eq_some_iff.1 hA.dfr).1
  refine ⟨hA2.dfr, ?_⟩
  subst hR hcs
  refine ⟨_, v, rfl, fin_disk hA2.disk (hnf _ hD'), fin_kp hA2.kp hD', ?_, w6.heap.size, rfl, ?_, ?_⟩
  · exact ownsRow_putObj (hT.alloc _) _ hA2.dfr rfl
  · have := hA.lt; omega
  · show (World.putObj _ D2 _).heap[w6.heap.size]? = _
    rw [World.putObj_heap_other (by omega)]
    exact World.alloc_heap_new _ _

theorem open_close_none {fr to_ D2 : Nat} {s : Bs} {W : World} {R : DS × Option LS × List Bs × Int} (hA : Aft w b g bm fr to_ D2 s D W) (hlow : ∀ k, Foot b g bm k → k < w.heap.size) (hD' : w.heap.size ≤ D2) (hR : (D, none, [], (180 : Int)) = R) :
    OpenPost w b g bm R (.returned (.tuple #[.pointer none, .slice none 0 0, .int .i64 180])) (W.putObj D2 (.deferred none)) := by
  subst hR
  exact open_none _ (fin_kp hA.kp hD') (fin_disk hA.disk (fun hf => by have := hlow _ hf; omega)) 180

theorem cells_new' (w : World) (l : List Value) (t : TypeId) {N : Nat} (hN : w.heap.size = N) : ∀ j u, l[j]? = some u → (w.alloc (.cells l.toArray t)).cell? ((⟨N, 0, none⟩ : Addr).add j) = some u := by
  subst hN
  exact cells_new w l t

theorem enc3_at : ∀ (fs : List Fr.F4) (k : Nat) (x : Fr.F4), fs[k]? = some x → ∀ j u, (enc3 x)[j]? = some u → (fs.flatMap enc3)[k * 3 + j]? = some u := by
  intro fs
  induction fs with
  | nil => intro k x h; simp at h
  | cons y fs ih =>
    intro k x h j u hu
    rw [List.flatMap_cons]
    have hj : j < 3 := by have := (List.getElem?_eq_some_iff.1 hu).1; simpa [enc3] using this
    cases k with
    | zero =>
      simp at h; subst h
      rw [Nat.zero_mul, Nat.zero_add, List.getElem?_append_left (by simp [enc3]; omega)]; exact hu
    | succ k =>
      rw [List.getElem?_cons_succ] at h
      have h3 : (enc3 y).length = 3 := rfl
      rw [List.getElem?_append_right (by omega), h3, show (k + 1) * 3 + j - 3 = k * 3 + j from by omega]
      exact ih k x h j u hu
theorem row_cell {W : World} {base n m sz g c : Nat} {T : TypeId} {xs : List Value} (h : W.ownsRow base T sz (.slice (some ⟨g, 0, none⟩) m c) n xs) {j : Nat} {u : Value} (hu : xs[j]? = some u) : W.cell? ⟨g, j, none⟩ = some u := by
  rcases h.2 with ⟨h1, _⟩ | ⟨g', cap, cur, hv, hbg, hgg, _, _, _, ht⟩
  · cases h1
  · injection hv with e1 e2 e3
    injection e1 with e1
    injection e1 with e1 _ _
    subst e1
    rw [cell_of_row W g j cur T _ hgg]
    rw [← ht, List.getElem?_take] at hu
    split at hu
    · simpa using hu
    · cases hu

set_option maxRecDepth 100000 in
set_option maxHeartbeats 4000000 in
theorem open_aux (h : IsDisk w b g bm D) (fr to_ ep : Nat) (hft : fr < to_) (hto : to_ ≤ D.olds.length) (R : DS × Option LS × List Bs × Int) (hR : openL D fr to_ ep = R) :
    Calls Tryd.prog 13 #[.pointer (some ⟨b, 0, none⟩), .int .i64 fr, .int .i64 to_, .int .u64 ep] w (OpenPost w b g bm R) := by
  obtain ⟨i0, hi, hz0, hz1, hz2⟩ := info_parts infoS
  have HR := Lib.hid hR
  clear hR
  have HL := Lib.hid (len_any h)
  have h4096 : D.olds.length ≤ 4096 := h.ok.hi
  have hlow : ∀ k, Foot b g bm k → k < w.heap.size := fun k hk => h.lt hk
  have HLOW := Lib.hid hlow
  have HH := Lib.hid h
  clear hlow
  obtain ⟨n, hn⟩ : ∃ n : Nat, n = D.olds.length := ⟨_, rfl⟩
  have HN := Lib.hid hn
  rw [← hn] at HL hto h4096
  clear h hn
  have t0 : ¬ (fr : Int) < 0 := by omega
  have t1 : ¬ (fr : Int) ≥ (to_ : Int) := by omega
  have t2 : ¬ (n : Int) < (to_ : Int) := by omega
  refine (callsIn_wide (n := 6)).1 ?_
  refine callsIn_of_wp_marks Tryd.func13 rfl trivial ?_ rfl
  simp only [Tryd.ntmps13, List.size_toArray, List.length_cons, List.length_nil, Nat.reduceAdd, Nat.reduceSub, Array.replicate_succ, Array.replicate_zero, List.push_toArray, List.append_toArray, List.nil_append, List.cons_append]
  gi_wp2_with (first
    | (refine ⟨trivial, ?_⟩; gi_at_call 45; refine (callsIn_wide.2 HL.out).mono ?_; rintro e w' ⟨rfl, rfl⟩)
    | (refine ⟨trivial, ?_⟩; gi_at_call 46; refine (callsIn_wide.2 (sectors_any _ _ _ _)).mono ?_; rintro e w' ⟨rfl, rfl⟩))
  rw [show w.heap.size + 1 + 1 = w.heap.size + 2 from rfl]
  obtain ⟨W0, hW0⟩ : ∃ W0, ((w.alloc (.cells #[.pointer (some ⟨b, 0, none⟩), .int .i64 fr, .int .i64 to_] 83)).alloc (.cells #[.pointer none, .slice none 0 0] 86)).alloc (.cells #[.pointer (some ⟨b, 0, none⟩), .int .i64 fr, .int .i64 to_] 83) = W0 := ⟨_, rfl⟩
  have hs : W0.heap.size = w.heap.size + 3 := by rw [← hW0]; simp
  have hC : ReadAt w b g bm fr to_ D [] W0 := by
    rw [← hW0]
    refine ⟨?_, ?_, ?_, ?_, ?_, fun h => absurd rfl h⟩
    · exact at_alloc (at_alloc (new_alloc w _ rfl) _) _
    · exact new_alloc _ _ (by simp)
    · exact ((HH.out.alloc _).alloc _).alloc _
    · refine .inl (Lib.BuilderAtF.alloc ⟨Nat.le_refl _, .slice none 0 0, new_alloc _ _ (by simp), World.ownsRowF_nil _ _ _ _, by simp [Value.ownBlock]⟩ _)
    · exact (((Below.refl _ w).alloc (Nat.le_refl _) _).alloc (by simp) _).alloc (by simp; omega) _
  rw [hW0]
  clear hW0
  refine wpIn_rangeFunc_seen rfl (by omega) (gf := 63) (lb := #[.pointer (some ⟨w.heap.size + 2, 0, none⟩)]) rfl trivial (enters_of Tryd.func63 (by kernel_rfl) rfl)
    (sectors_seen 5 (by omega) (w.heap.size + 2) b g bm fr to_ n (by omega) (by omega) W0 hC.area2 ⟨D, hC.disk, HN.out.symm⟩) (Kp := KpS (w.heap.size + 2) b g bm n)
    (fun hA hB => ⟨hB.1.trans hA.1, fun D1 h1 n1 => by obtain ⟨D2, h2, n2⟩ := hA.2 D1 h1 n1; exact hB.2 D2 h2 n2⟩)
    (fun W l o o' hl ho _ _ => ⟨World.putObj_heap_other (by omega), fun D1 h1 n1 => ⟨D1, h1.same (by simp [World.putObj]) (fun k hk => World.putObj_heap_other (by have := HLOW.out k hk; omega)), n1⟩⟩) (Below.refl _ _) (fun _ => rfl)
    (fun pre W => ReadAt w b g bm fr to_ D pre W) (fun _ _ _ => False)
    (fun s X Y row hs2 hg hr => hs2.grown HLOW.out hg (fun r e => ⟨by have := (hr r e).1; omega, (hr r e).2⟩))
    (fun c s X Y row hs2 hg hr => hs2.elim)
    hC
    (fun pre x a' W => SeenS b g bm fr pre x W ∧ a' = { tmps := #[.pointer (some ⟨b, 0, none⟩), .int .i64 fr, .int .i64 to_, .int .u64 ep, undef, undef, undef, undef, .pointer none, .slice none 0 0, .int .i64 0, .pointer (some ⟨w.heap.size, 0, none⟩), .pointer (some ⟨w.heap.size + 1, 0, none⟩), undef, .string ⟨x.2.toArray⟩, undef, undef, undef, undef, undef, .int .i64 fr, .bool false, .bool false, .int .i64 fr, .int .i64 to_, .bool false, .bool false, .bool false, .int .i64 to_, .pointer (some ⟨b, 0, none⟩), .int .i64 n, .bool false, .bool false, .pointer (some ⟨b, 0, none⟩), .int .i64 fr, .int .i64 to_, .agg #[.pointer (some ⟨b, 0, none⟩), .int .i64 fr, .int .i64 to_], .agg #[.pointer (some ⟨b, 0, none⟩), .int .i64 fr, .int .i64 to_], .func (.func 63) #[] #[.pointer (some ⟨w.heap.size + 2, 0, none⟩)], .int .i64 x.1, .string ⟨x.2.toArray⟩, undef, undef, undef, undef, undef, undef, undef, undef, undef, undef, undef, undef, undef, undef, undef, undef, undef, undef, undef, undef, undef, undef, undef, undef, undef, undef, undef, undef, undef, undef, undef, undef, undef, undef, undef, undef, undef, undef, undef, undef, undef, undef, undef, undef, undef], defers := [] })
    ?hAx ?hS ?hSp ?assign ?body ?done ?stop
  case hAx =>
    rintro pre x a' s X Z row ⟨⟨k1, D1, k2, k3⟩, k4⟩ hg hr
    exact ⟨⟨k1, D1, disk_grown k2 hg (fun r e hf => by have h1 := (hr r e).1; have h2 := HLOW.out r hf; omega), k3⟩, k4⟩
  case hS =>
    rintro s X Z row ⟨k1, D1, k2, k3⟩ hg hr
    exact ⟨k1, D1, disk_grown k2 hg (fun r e hf => by have h1 := (hr r e).1; have h2 := HLOW.out r hf; omega), k3⟩
  case hSp =>
    rintro s X Z row k1 hg hr
    exact k1
  case assign =>
    rintro l pre x W K hI hy hK
    obtain ⟨i, t⟩ := x
    simp only [encS]
    gi_wp2
    exact hK _ _ (KeepsFrom.refl _ _) ⟨rfl, fun D1 h1 n1 => ⟨D1, h1, n1⟩⟩ hI ⟨hy, rfl⟩
  case body =>
    rintro l pre x a' W hl hex hI ⟨⟨hx1, D1, hd1, hrd⟩, rfl⟩ hlt
    obtain ⟨i, t⟩ := x
    obtain rfl := hd1.uniq hI.disk
    simp only at hx1 hrd
    subst hx1
    have hon : within D1 (fr + pre.length : Nat) = 0 := by
      by_cases hw : within D1 (fr + pre.length : Nat) = 0
      · exact hw
      · exfalso
        unfold Dk.read at hrd
        rw [if_pos hw] at hrd
        exact hw (by have := congrArg Prod.snd hrd; exact this)
    have ht : t = sect D1 (fr + pre.length) := by
      unfold Dk.read at hrd
      rw [if_neg (by rw [hon]; decide)] at hrd
      have := congrArg Prod.fst hrd
      simp only at this
      rw [← this]
      rfl
    have hup := (within_zero hon).1
    have hN := HN.out
    have ht64 : t.length = 64 := by rw [ht]; exact sect_length hd1.ok (by omega)
    have hbl := bytesOf_length hd1.ok pre.length fr (by omega)
    have hsn := bytesOf_snoc D1 pre.length fr
    rw [← ht] at hsn
    obtain ⟨tt, htt, hts⟩ : ∃ x : ByteArray, x = ⟨t.toArray⟩ ∧ x.size = 64 := ⟨_, rfl, by show t.toArray.size = 64; simp [ht64]⟩
    have hWs : w.heap.size + 2 < W.heap.size := (Array.getElem?_eq_some_iff.1 hI.area2).1
    have HW := Lib.hid (writeString_kept (w.heap.size + 1) (w.heap.size + 1) _ tt W hI.bld (by rw [Lib.byteCells_length]; omega) (by omega))
    have hcells : Lib.byteCells (bytesOf D1 fr pre.length) ++ Lib.strCells tt = Lib.byteCells (bytesOf D1 fr (pre ++ [(fr + pre.length, t)]).length) := by
      rw [List.length_append]
      show _ = Lib.byteCells (bytesOf D1 fr (pre.length + 1))
      rw [hsn, htt]
      simp [Lib.byteCells, Lib.strCells]
    rw [hcells] at HW
    have HI := Lib.hid hI
    have HUP := Lib.hid hup
    clear hrd hon ht hup hbl hsn hcells hd1 hI hN
    dsimp only
    rw [← htt]
    clear htt
    gi_wp2_with fail
    refine ⟨trivial, ?_⟩
    refine ((callsIn_wide.2 HW.out).inRound l).mono ?_
    rintro e1 w1 ⟨rfl, ⟨hb1, hbl1⟩, hu1⟩
    have HB1 := Lib.hid hb1
    have HBL1 := Lib.hid hbl1
    have HU1 := Lib.hid hu1
    clear hb1 hbl1 hu1
    gi_wp2
    have hbelow := HBL1.out
    have hU := HU1.out
    have old : ∀ (k : Nat) (o : Obj), k ≠ w.heap.size + 1 → W.heap[k]? = some o → (∀ cs fr, o ≠ .cells cs TU fr) → w1.heap[k]? = some o := fun k o hk ho hn => hU k o hk ho hn
    have a2 : Area w1 (w.heap.size + 2) b fr to_ := old _ _ (by omega) HI.out.area2 (fun cs f e => by simp only [Obj.cells.injEq] at e; exact absurd e.2.1 (by decide))
    have dk : IsDisk w1 b g bm D1 := HI.out.disk.same hbelow.size (fun k hk => hbelow.block k (by have := HLOW.out k hk; omega))
    refine ⟨⟨hbelow.size, fun k o hB hk hc => ?_⟩, ⟨a2.trans HI.out.area2.symm, fun D2 h2 n2 => ⟨D2, h2.same hbelow.size (fun k hk => hbelow.block k (by have := HLOW.out k hk; omega)), n2⟩⟩, ?_⟩
    · exact old k o (by omega) hk (fun cs f e => by subst e; cases hc)
    · exact ⟨(hbelow.block _ (by omega)).trans HI.out.area, a2, dk, .inr HB1.out, HI.out.bel.trans (hbelow.mono (by omega)), fun _ => HUP.out⟩
  case done =>
    rintro D2 xs W hD ⟨hri, D3, hd3, hend⟩ hI hK
    obtain rfl := hd3.uniq hI.disk
    have hseen : bytesOf D3 fr xs.length = seenB D3 fr to_ := by
      have hN := HN.out
      unfold seenB
      cases hoff : D3.off with
      | true =>
        have : xs = [] := by
          cases xs with
          | nil => rfl
          | cons y r => have := hI.up (by simp); rw [hoff] at this; cases this
        subst this
        rfl
      | false =>
        rcases hend with he | ⟨he, hr⟩
        · rw [show to_ - fr = xs.length from by omega]; simp
        · exfalso
          apply hr
          unfold Dk.read
          rw [if_neg (by rw [within_some hoff (by omega) (by omega)]; decide)]
    have hA : Aft w b g bm fr to_ D2 (seenB D3 fr to_) D3 W := ⟨hI.area, hI.disk, by rw [← hseen]; exact hI.bld, .of_below hI.bel, hK⟩
    have hsl : (seenB D3 fr to_).length ≤ 262144 := by
      have hN := HN.out
      unfold seenB
      split
      · simp
      · rw [bytesOf_length hI.disk.ok _ _ (by omega)]; omega
    obtain ⟨s, hsd⟩ : ∃ s, s = seenB D3 fr to_ := ⟨_, rfl⟩
    rw [← hsd] at hA hsl
    have HSD := Lib.hid hsd
    have hD' : w.heap.size ≤ D2 := by omega
    have HS := Lib.hid (string_kept (B := w.heap.size + 1) (b := w.heap.size + 1) s hA.bld (by have := hA.lt; omega))
    have HA := Lib.hid hA
    clear hri hd3 hend hI hK hseen hA hsd hD
    gi_wp2_with fail
    refine ⟨trivial, ?_⟩
    refine (callsIn_wide.2 HS.out).mono ?_
    rintro e w1 ⟨rfl, hl⟩
    have HA1 := Lib.hid (HA.out.read HLOW.out hl)
    clear hl HA HS
    have hAll := all_any ⟨s.toArray⟩ ep w1 (by show s.toArray.size ≤ _; simp; omega)
    obtain ⟨fs, hfs⟩ : ∃ fs, fs = (Fr.allL ep 0 0 (Fr.G s 0)).1 := ⟨_, rfl⟩
    obtain ⟨en, hen⟩ : ∃ en, en = Fr.toldEnd ep s := ⟨_, rfl⟩
    have hen2 : en ≤ 262144 := by have := Fr.toldEnd_le ep s; omega
    rw [show (⟨s.toArray⟩ : ByteArray).data.toList = s from by simp, show (Fr.allL ep 0 0 (Fr.G s 0)).2 = Fr.toldEnd ep s from rfl, ← hen, ← hfs] at hAll
    have HALL := Lib.hid hAll
    have HFS := Lib.hid hfs
    have HEN := Lib.hid hen
    clear hAll hfs hen
    gi_wp2_with fail
    refine ⟨trivial, ?_⟩
    refine (callsIn_wide.2 HALL.out).mono ?_
    rintro e w2 ⟨v, rfl, hrow, hb2⟩
    have HA2 := Lib.hid (HA1.out.below HLOW.out hD' hb2)
    have HROW := Lib.hid hrow
    have hw1 : w.heap.size ≤ w1.heap.size := by have := HA1.out.lt; omega
    clear hrow hb2 HALL HA1
    have HUP := Lib.hid (up_any HA2.out.disk)
    cases hoff : D3.off with
    | true =>
      have hR2 : (D3, (none : Option LS), ([] : List Bs), (180 : Int)) = R := by
        rw [← HR.out]
        have hN := HN.out
        unfold openL
        rw [if_neg (by omega), if_pos hoff]
      rw [hoff] at HUP
      have HR2 := Lib.hid hR2
      clear hoff hR2
      gi_wp2_with (refine ⟨trivial, ?_⟩; gi_at_call 39; refine (callsIn_wide.2 HUP.out).mono ?_; rintro e w' ⟨rfl, rfl⟩)
      refine ⟨trivial, ?_⟩
      gi_wp2
      refine ⟨by simp, .inl ⟨_, _, rfl, run_takeDeferred HA2.out.dfr, ?_⟩⟩
      refine ⟨_, ?_, open_close_none HA2.out HLOW.out hD' HR2.out⟩
      simp [results, Tryd.results13, go_sem]
    | false =>
      rw [hoff] at HUP
      have HOFF := Lib.hid hoff
      clear hoff
      have HCL := Lib.hid (clean_any HA2.out.disk fr to_ en (by omega) (by rw [← HN.out]; exact hto) (by omega))
      have ca : w2.cell? ⟨w.heap.size, 0, none⟩ = some (.pointer (some ⟨b, 0, none⟩)) := cell_of_row w2 w.heap.size 0 _ _ _ HA2.out.area
      have cb : w2.cell? ⟨w.heap.size, 1, none⟩ = some (.int .i64 fr) := cell_of_row w2 w.heap.size 1 _ _ _ HA2.out.area
      have cc : w2.cell? ⟨w.heap.size, 2, none⟩ = some (.int .i64 to_) := cell_of_row w2 w.heap.size 2 _ _ _ HA2.out.area
      gi_wp2_with (refine ⟨trivial, ?_⟩; gi_at_call 39; refine (callsIn_wide.2 HUP.out).mono ?_; rintro e w' ⟨rfl, rfl⟩)
      refine ⟨trivial, ?_⟩
      refine (callsIn_wide.2 HCL.out).mono ?_
      rintro e w3 ⟨rfl, hd3, hk3⟩
      obtain ⟨⟨D4, er⟩, hD4⟩ : ∃ x, clean D3 fr to_ en = x := ⟨_, rfl⟩
      rw [hD4] at hd3
      rw [hD4]
      have HA3 := Lib.hid (HA2.out.same HLOW.out hD' hk3 hd3)
      have HROW3 := Lib.hid (row_kp HROW.out hk3 (fun k hk hf => by have := HLOW.out k hf; omega))
      have HD4 := Lib.hid hD4
      clear hd3 hk3 hD4 HCL HA2 HROW ca cb cc HUP
      by_cases her : er = 0
      · subst her
        obtain ⟨av, cv, rfl⟩ : ∃ a c, v = .slice a fs.length c := by
          rcases HROW3.out.2 with ⟨rfl, hz⟩ | ⟨g, c, cur, rfl, _⟩
          · exact ⟨none, 0, by rw [hz]⟩
          · exact ⟨_, c, rfl⟩
        gi_wp2
        gi_loopw [17, 60] (fun t i wr => ∃ k : Nat, i = .int .i64 k ∧ k ≤ fs.length ∧ wr.ownsRow w.heap.size 9 1 t k ((fs.take k).map fun x => .string (Fr.ba x.2.2.2)) ∧ Aft w b g bm fr to_ D2 s D4 wr ∧ wr.ownsRow w1.heap.size 100 3 (.slice av fs.length cv) fs.length (fs.flatMap enc3)) (fun _ i _ => fs.length - (intOf i).toNat)
        case atStart => exact ⟨0, rfl, Nat.zero_le _, World.ownsRow_nil _ _ _ _, HA3.out, HROW3.out⟩
        case round =>
          obtain ⟨k, rfl, hk, hrow, haft, hfr⟩ := hrel
          by_cases hlt : k < fs.length
          · obtain ⟨⟨xe, xq, xep, xt⟩, hx⟩ : ∃ x, fs[k]? = some x := ⟨_, List.getElem?_eq_getElem hlt⟩
            obtain ⟨gf, rfl⟩ : ∃ gf, av = some ⟨gf, 0, none⟩ := by
              rcases hfr.2 with ⟨h1, h2⟩ | ⟨g, c, cur, h1, _⟩
              · omega
              · injection h1 with e1 e2 e3; exact ⟨g, e1⟩
            have hcells : ∀ j u, [Value.int .u64 xq, .int .u64 xep, .string (Fr.ba xt)][j]? = some u → wr.cell? ⟨gf, k * 3 + j, none⟩ = some u := fun j u hu => row_cell hfr (enc3_at fs k _ hx j u hu)
            have f0 : wr.cell? ⟨gf, k * 3, none⟩ = some (.int .u64 xq) := hcells 0 _ rfl
            have f1 := hcells 1 _ rfl
            have f2 := hcells 2 _ rfl
            have HROWT := Lib.hid hrow
            have HAFT := Lib.hid haft
            have HFR := Lib.hid hfr
            have HX := Lib.hid hx
            have HCELLS := Lib.hid hcells
            clear hrow haft hfr hcells hx
            obtain ⟨at_, ct, rfl⟩ : ∃ a c, u17 = .slice a k c := by
              rcases HROWT.out.2 with ⟨rfl, hz⟩ | ⟨g, c, cur, rfl, _⟩
              · exact ⟨none, 0, by rw [hz]⟩
              · exact ⟨_, c, rfl⟩
            have hWs : w.heap.size + 1 < wr.heap.size := HAFT.out.lt
            have hfl : fs.length ≤ 262144 := by
              have h1 := HFS.out
              have h2 := Fr.told_small ep s
              have h3 := Fr.szs_len (Fr.told ep s)
              have h4 := Fr.toldEnd_le ep s
              rw [Fr.toldEnd_eq] at h4
              have h5 : (Fr.told ep s).length = fs.length := by rw [h1]; unfold Fr.told; simp
              omega
            gi_wp2_with (gi_at_builtin; refine wpListIn_append_own _ rfl _ _ 22 rfl w.heap.size 9 i0 (.string ⟨#[]⟩) 1 16 Tryd.underlying22 hi hz0 hz1 hz2 rfl (by decide) _ _ _ rfl ((HROWT.out.alloc _).alloc _) ⟨wr.heap.size + 1, 0, none⟩ 1 1 [.string (Fr.ba xt)] rfl rfl (cells_new' _ _ _ (by simp)) (by simp [Value.oneCell']) (by unfold maxLen; omega) (by omega) (by simp; omega) ?_; intro v' w5 hown' hgrow _)
            have hown2 := Lib.hid hown'
            clear hown'
            obtain ⟨g5, c5, rfl⟩ : ∃ g5 c5, v' = .slice (some ⟨g5, 0, none⟩) (k + 1) c5 := by
              rcases hown2.out.2 with ⟨_, hz⟩ | ⟨g, c, cur, rfl, _⟩
              · omega
              · exact ⟨_, _, rfl⟩
            gi_wp2
            go_roundw
            case rel =>
              refine ⟨k + 1, by go_num, hlt, ?_, ?_, ?_⟩
              · have h1 := hown2.out
                rw [show fs.take (k + 1) = fs.take k ++ [(xe, xq, xep, xt)] from by rw [List.take_add_one, HX.out]; rfl, List.map_append]
                exact h1
              · exact ((HAFT.out.below HLOW.out hD' ((Below.refl _ _).alloc (Nat.le_refl _) _)).below HLOW.out hD' ((Below.refl _ _).alloc (Nat.le_refl _) _)).rowed HLOW.out ((HROWT.out.alloc _).alloc _) hgrow
              · exact ((HFR.out.alloc _).alloc _).kept hgrow (row_ne (W := wr) HFR.out HROWT.out (by decide))
            case measure => simp [intOf]; omega
          · have hfl : fs.length ≤ 262144 := by
              have h1 := HFS.out
              have h2 := Fr.told_small ep s
              have h3 := Fr.szs_len (Fr.told ep s)
              have h4 := Fr.toldEnd_le ep s
              rw [Fr.toldEnd_eq] at h4
              have h5 : (Fr.told ep s).length = fs.length := by rw [h1]; unfold Fr.told; simp
              omega
            obtain rfl : k = fs.length := by omega
            rw [List.take_of_length_le (Nat.le_refl _)] at hrow
            obtain ⟨at_, ct, rfl⟩ : ∃ a c, u17 = .slice a fs.length c := by
              rcases hrow.2 with ⟨rfl, hz⟩ | ⟨g, c, cur, rfl, _⟩
              · exact ⟨none, 0, by rw [hz]⟩
              · exact ⟨_, c, rfl⟩
            have HROWT := Lib.hid hrow
            have HAFT := Lib.hid haft
            clear hrow haft hfr
            have ca : wr.cell? ⟨w.heap.size, 0, none⟩ = some (.pointer (some ⟨b, 0, none⟩)) := cell_of_row wr w.heap.size 0 _ _ _ HAFT.out.area
            have cb : wr.cell? ⟨w.heap.size, 1, none⟩ = some (.int .i64 fr) := cell_of_row wr w.heap.size 1 _ _ _ HAFT.out.area
            have cc : wr.cell? ⟨w.heap.size, 2, none⟩ = some (.int .i64 to_) := cell_of_row wr w.heap.size 2 _ _ _ HAFT.out.area
            obtain ⟨m, hm⟩ : ∃ m : Nat, m = en - en % 64 := ⟨_, rfl⟩
            have hm1 : m ≤ en := by omega
            have hens : en ≤ s.length := by have := HEN.out; have := Fr.toldEnd_le ep s; omega
            obtain ⟨r, hr⟩ : ∃ r : Nat, r = en % 64 := ⟨_, rfl⟩
            have e0 : (en : Int) % 64 = (r : Int) := by omega
            have e1 : (en : Int).tmod 64 = (r : Int) := by rw [Int.tmod_eq_emod_of_nonneg (by omega)]; omega
            have e2 : IntKind.i64.wrap (m : Int) = (m : Int) := IntWalk.i64_in _ (by omega)
            have e4 : (en : Int) - (r : Int) = (m : Int) := by omega
            have HRR := Lib.hid hr
            clear hr
            have e3 : IntKind.u64.wrap (fs.length : Int) = (fs.length : Int) := IntWalk.u64_in _ (by omega)
            obtain ⟨ss, hss, hsz⟩ : ∃ ss : ByteArray, ss = ⟨s.toArray⟩ ∧ ss.size = s.length := ⟨_, rfl, by show s.toArray.size = _; simp⟩
            have hss2 : ss.size ≤ 262144 := by omega
            have hens2 : en ≤ ss.size := by omega
            have HST := Lib.hid (string_kept (B := w.heap.size + 1) (b := w.heap.size + 1) (w := wr.drew) s HAFT.out.bld (by show _ ≤ wr.heap.size; have := HAFT.out.lt; omega))
            rw [← hss] at HST
            have HSS := Lib.hid hss
            have HM := Lib.hid hm
            clear hsz hens hss hm
            gi_wp2
            refine only_normal ?_
            gi_region_with (refine ⟨trivial, ?_⟩; gi_at_call 49; refine (callsIn_wide.2 HST.out).mono ?_; rintro e2 w6 ⟨rfl, hl⟩; have HA6 := Lib.hid ((HAFT.out.below HLOW.out hD' (Below.refl _ _).drew).read HLOW.out hl); have ca6 : w6.cell? ⟨w.heap.size, 0, none⟩ = some (.pointer (some ⟨b, 0, none⟩)) := cell_of_row w6 w.heap.size 0 _ _ _ HA6.out.area; have cb6 : w6.cell? ⟨w.heap.size, 1, none⟩ = some (.int .i64 fr) := cell_of_row w6 w.heap.size 1 _ _ _ HA6.out.area; have cc6 : w6.cell? ⟨w.heap.size, 2, none⟩ = some (.int .i64 to_) := cell_of_row w6 w.heap.size 2 _ _ _ HA6.out.area)
            all_goals refine only_elim ?_
            all_goals gi_wp2
            all_goals
              have hT6 : w6.ownsRow w.heap.size 9 1 (.slice at_ fs.length ct) (fs.map fun x => x.2.2.2).length ((fs.map fun x => x.2.2.2).map fun t => .string ⟨t.toArray⟩) := by
                rw [List.length_map, List.map_map]
                exact row_kpu HROWT.out hl.2.2 HAFT.out.bcell (by decide) (by decide)
              have hfin := open_close (L := ⟨fr, to_, ep, fs.length, en, (s.take en).drop m, false⟩) (R := R) HA6.out HLOW.out hD' hT6 (by
                rw [← HR.out]
                have hN := HN.out
                have hs2 : s = bytesOf D3 fr (to_ - fr) := by rw [HSD.out]; unfold seenB; rw [if_neg (by rw [HOFF.out]; simp)]
                have hfl : fs.length = (Fr.told ep s).length := by rw [HFS.out]; unfold Fr.told; simp
                unfold openL
                rw [if_neg (by omega), if_neg (by rw [HOFF.out]; simp), Int.toNat_natCast, Int.toNat_natCast]
                unfold openAt
                rw [← hs2, ← HEN.out, HD4.out]
                simp only [ne_eq, not_true_eq_false, if_false]
                rw [← HM.out, hfl]
                congr 3
                rw [HFS.out]; rfl) (cs := #[.pointer (some ⟨b, 0, none⟩), .int .i64 fr, .int .i64 to_, .int .u64 ep, .int .u64 fs.length, .int .i64 en, .string (ss.extract m en), .bool false]) (by
                have : ss.extract m en = ⟨((s.take en).drop m).toArray⟩ := by
                  apply Fr.ext_list
                  rw [Fr.extract_list, HSS.out]
                rw [this])
              refine ⟨by simp, .inl ⟨_, _, rfl, run_takeDeferred hfin.1, ?_⟩⟩
              refine ⟨_, ?_, hfin.2⟩
              simp [results, Tryd.results13, go_sem]
      · have hte : (er != 0) = true := by rw [bne_iff_ne]; exact her
        have hR2 : (D4, (none : Option LS), ([] : List Bs), (180 : Int)) = R := by
          rw [← HR.out]
          have hN := HN.out
          have hs2 : s = bytesOf D3 fr (to_ - fr) := by rw [HSD.out]; unfold seenB; rw [if_neg (by rw [HOFF.out]; simp)]
          unfold openL
          rw [if_neg (by omega), if_neg (by rw [HOFF.out]; simp), Int.toNat_natCast, Int.toNat_natCast]
          unfold openAt
          rw [← hs2, ← HEN.out, HD4.out]
          simp only [ne_eq, her, not_false_eq_true, if_true]
        have HR2 := Lib.hid hR2
        clear her hR2
        gi_wp2
        refine ⟨by simp, .inl ⟨_, _, rfl, run_takeDeferred HA3.out.dfr, ?_⟩⟩
        refine ⟨_, ?_, open_close_none HA3.out HLOW.out hD' HR2.out⟩
        simp [results, Tryd.results13, go_sem]
  case stop =>
    rintro D2 c pre W hD hpre hF hK
    exact hF.elim

theorem open_any (h : IsDisk w b g bm D) (fr to_ : Int) (ep : Nat) :
    Calls Tryd.prog 13 #[.pointer (some ⟨b, 0, none⟩), .int .i64 fr, .int .i64 to_, .int .u64 ep] w (OpenPost w b g bm (openL D fr to_ ep)) := by
  by_cases hb : fr < 0 ∨ to_ ≤ fr ∨ (D.olds.length : Int) < to_
  · rw [openL_bad ep hb]
    exact open_bad h fr to_ ep hb
  · obtain ⟨f, rfl⟩ := Int.eq_ofNat_of_zero_le (show 0 ≤ fr by omega)
    obtain ⟨t, rfl⟩ := Int.eq_ofNat_of_zero_le (show 0 ≤ to_ by omega)
    exact open_aux h f t ep (by omega) (by omega) _ rfl
end Go.Proofs.YtoafebndlldclaaDoor.Wl
