/- A loop over an iterator that writes blocks of its own ('T') between two elements: what the loop keeps must abide that. The iterator says of each element what holds in the world where it hands it on ('Y'). Of no program. -/
import Derived.RangeFuncNested
import Derived.RangeFuncBound
import Derived.RangeFuncCalls
namespace Go.Proofs.YtgdlkpfkaehebaaGreatDoor.It
open Go Go.RowKit
variable {F : Fence} {n : Nat} {P : Program}

/-- it abides what the iterator writes, too -/
def AbidesT {β : Type} (T : Nat → Prop) (B : Nat) (J : β → World → Prop) : Prop :=
  ∀ s W W' row, J s W → W.grownBy W' row → (∀ r, row = some r → T r ∨ (B ≤ r ∧ ∃ o : Obj, W.heap[r]? = some o ∧ o.isWalk = true)) → J s W'
def OwnT {β : Type} (T : Nat → Prop) (B : Nat) (I : β → World → Prop) : Prop :=
  ∀ s W W' row, I s W → W.grownBy W' row → (∀ r, row = some r → T r ∨ (B ≤ r ∧ ∃ o : Obj, W.heap[r]? = some o ∧ o.isCells = false)) → I s W'
theorem OwnT.from {β : Type} {T : Nat → Prop} {B : Nat} {I : β → World → Prop} (h : OwnT T B I) : OwnFrom B I := fun s W W' row hs hg hr => h s W W' row hs hg (fun r e => .inr (hr r e))

/-- an iterator's word to a loop whose body may write what the iterator reads: each element comes with Y -/
def SeqIter {α : Type} (F : Fence) (n : Nat) (P : Program) (g : Nat) (lb : Array Value) (encs : α → Array Value) (T : Nat → Prop) (Kp : World → World → Prop) (Y : List α → α → World → Prop) (S Sp : List α → World → Prop) (N : Nat) (w : World) : Prop :=
  ∀ (l : Nat) (J Jx : List α → World → Prop) (W : World), Below w.heap.size w W → AbidesT T W.heap.size J → AbidesT T W.heap.size Jx →
    (∀ pre x W1, J pre W1 → pre.length < N → Y pre x W1 → YieldAt F (n - 1) P l (encs x) W1 fun e W' =>
      (e = .returned (.bool true) ∧ J (pre ++ [x]) W' ∧ Kp W1 W') ∨ (e = .returned (.bool false) ∧ Jx (pre ++ [x]) W')) →
    J [] W →
    CallsIn F n P g (#[.func (.yield l) #[] #[]] ++ lb) W fun e W' => (∃ v, e = .returned v) ∧ ((∃ xs, S xs W' ∧ J xs W') ∨ (∃ pre, Sp pre W' ∧ Jx pre W'))

theorem wpIn_rangeFunc_iter {α : Type} {g : Operand} {ps : Array Tmp} {assign body : Code} {Q : Exit → Act → World → Prop} {a : Act} {w : World}
    (hro : F.round = none) (h1 : 1 ≤ n) {gf : Nat} {lb : Array Value} (hg : a.eval g = .func (.func gf) #[] lb) (hFg : F.fn gf) (eg : ∀ args w, (callFunc gf args).run P w = .ok (.enter gf args) w)
    {encs : α → Array Value} {T : Nat → Prop} {Kp : World → World → Prop} {Y : List α → α → World → Prop} {S Sp : List α → World → Prop} {N : Nat} {w0 : World} (hseq : SeqIter F (n - 1) P gf lb encs T Kp Y S Sp N w0) (hT : ∀ k, T k → k < w.heap.size)
    (hKt : ∀ {A B C : World}, Kp A B → Kp B C → Kp A C) (hKb : ∀ (W : World) (l : Nat) (o o' : Obj), w.heap.size ≤ l → W.heap[l]? = some o → o.isCells = false → o.isWalk = false → Kp W (W.putObj l o')) (hb0 : Below w0.heap.size w0 w) (hps : ∀ x, (encs x).size = ps.size)
    (I : List α → World → Prop) (Ix : Code → List α → World → Prop) (hIT : OwnT T w.heap.size I) (hIxT : ∀ c, OwnT T w.heap.size (Ix c)) (h0 : I [] w) (Ax : List α → α → Act → World → Prop) (hAx : ∀ pre x a', OwnFrom w.heap.size (fun (_ : Unit) W => Ax pre x a' W))
    (hS : OwnFrom w.heap.size S) (hSp : OwnFrom w.heap.size Sp)
    (hassign : ∀ (l : Nat) (pre : List α) (x : α) (W : World) (K : Act → World → Prop), I pre W → Y pre x W → (∀ a' W', KeepsFrom w.heap.size W W' → Kp W W' → I pre W' → Ax pre x a' W' → K a' W') →
      assign.wpIn (F.inRound l) (n - 1 - 1) P (Exit.then K (fun _ _ _ => False)) { tmps := (ps.zip (encs x)).foldl (fun t (p, v) => t.setIfInBounds p v) a.tmps, defers := [] } W)
    (hbody : ∀ (l : Nat) (pre : List α) (x : α) (a' : Act) (W : World), w.heap.size ≤ l → (∃ r, W.heap[l]? = some (.loop r)) → I pre W → Ax pre x a' W → pre.length < N → body.wpIn (F.inRound l) (n - 1 - 1) P (ownPostG w.heap.size Kp I Ix (pre ++ [x]) W) a' W)
    (hdone : ∀ (D : Nat) (xs : List α) (W : World), w.heap.size ≤ D → S xs W → I xs W → W.heap[D]? = some (.deferred (some [])) → Q .normal { a with defers := { target := .collected D, args := #[] } :: a.defers } W)
    (hstop : ∀ (D : Nat) (c : Code) (pre : List α) (W : World), w.heap.size ≤ D → Sp pre W → Ix c pre W → W.heap[D]? = some (.deferred (some [])) → c.wpIn F n P Q { a with defers := { target := .collected D, args := #[] } :: a.defers } W) :
    (Code.rangeFunc g ps assign body).wpIn F n P Q a w := by
  have hI := hIT.from
  have hIx := fun c => (hIxT c).from
  refine wpIn_rangeFunc ?_
  intro fn hfn
  rw [hro]
  -- the loop's record, at block L, and the block of the rounds' deferred calls, at block B
  let rc : LoopState → Option Code → Loop := fun st pe => { state := st, pending := pe, fn, tmps := a.tmps, params := ps, assign, body, defers := w.heap.size }
  obtain ⟨U, hU⟩ : ∃ U, U = (w.alloc (.deferred (some []))).alloc (.loop (rc .ready none)) := ⟨_, rfl⟩
  have uL : U.heap[w.heap.size + 1]? = some (.loop (rc .ready none)) := by
    have := World.alloc_heap_new (w.alloc (.deferred (some []))) (.loop (rc .ready none))
    rwa [World.size_alloc, ← hU] at this
  have uB : U.heap[w.heap.size]? = some (.deferred (some [])) := by
    rw [hU]; exact (Below.heap_alloc _ _ _ (by simp)).trans (World.alloc_heap_new w _)
  have uI : I [] U := by rw [hU]; exact hI.alloc _ (hI.alloc _ h0)
  have ub : Below w0.heap.size w0 U := by
    rw [hU]; exact hb0.trans ((((Below.refl _ w).alloc (Nat.le_refl _) _).alloc (by simp) _).mono hb0.size)
  have us : U.heap.size = w.heap.size + 2 := by rw [hU]; simp
  have walk : ∀ {A : World} {row : Option Nat}, (∀ r, row = some r → T r ∨ (U.heap.size ≤ r ∧ ∃ o : Obj, A.heap[r]? = some o ∧ o.isWalk = true)) → (∀ r, row = some r → T r ∨ (w.heap.size ≤ r ∧ ∃ o : Obj, A.heap[r]? = some o ∧ o.isCells = false)) := by
    intro A row hr r e
    rcases hr r e with h1 | ⟨h2, o, ho, hw⟩
    · exact .inl h1
    · exact .inr ⟨by omega, o, ho, Obj.not_cells_of_walk hw⟩
  have far : ∀ {A A' : World} {row : Option Nat}, A.grownBy A' row → (∀ r, row = some r → T r ∨ (U.heap.size ≤ r ∧ ∃ o : Obj, A.heap[r]? = some o ∧ o.isWalk = true)) → ∀ (k : Nat) (o : Obj), w.heap.size ≤ k → k < w.heap.size + 2 → A.heap[k]? = some o → A'.heap[k]? = some o := by
    intro A A' row hg hr k o hk hk2 ho
    refine (hg.block k (Array.getElem?_eq_some_iff.1 ho).1 (fun e => ?_)).trans ho
    rcases hr k e.symm with h1 | ⟨h2, _⟩
    · have := hT k h1; omega
    · omega
  refine ⟨w.heap.size + 1, [{ target := .collected w.heap.size, args := #[] }], U, { target := .fn (.func gf) lb, args := #[.func (.yield (w.heap.size + 1)) #[] #[]] }, U, gf,
    #[.func (.yield (w.heap.size + 1)) #[] #[]] ++ lb, U, by rw [hU]; exact run_enterLoop_outer _ _ _ _ _, ?_, ?_, by simp [invoke, go_sem, eg], fun _ => h1, ?_⟩
  · simp only [resolve, hg]
    simp [go_sem]
  · intro f' hf'
    simp [Target.leads] at hf'
    subst hf'
    exact hFg
  · refine (hseq (w.heap.size + 1) (fun pre W => (I pre W ∧ W.heap[w.heap.size + 1]? = some (.loop (rc .ready none))) ∧ W.heap[w.heap.size]? = some (.deferred (some [])))
      (fun pre W => ∃ c, (Ix c pre W ∧ W.heap[w.heap.size + 1]? = some (.loop (rc .done (some c)))) ∧ W.heap[w.heap.size]? = some (.deferred (some []))) U ub ?_ ?_ ?_ ⟨⟨uI, uL⟩, uB⟩).mono ?_
    · rintro s A A' row ⟨⟨k1, k2⟩, k3⟩ hgr hr
      exact ⟨⟨hIT s A A' row k1 hgr (walk hr), far hgr hr _ _ (by omega) (by omega) k2⟩, far hgr hr _ _ (by omega) (by omega) k3⟩
    · rintro s A A' row ⟨c, ⟨k1, k2⟩, k3⟩ hgr hr
      exact ⟨c, ⟨hIxT c s A A' row k1 hgr (walk hr), far hgr hr _ _ (by omega) (by omega) k2⟩, far hgr hr _ _ (by omega) (by omega) k3⟩
    · rintro pre x V ⟨⟨vi, vl⟩, vk⟩ hlen hy
      have run := run_yield (P := P) (args := encs x) vl (hps x)
      refine ⟨fn, _, assign, body, run, roundIn_of_wpIn hfn (hassign _ pre x V _ vi hy ?_)⟩
      intro a' V2 ka kp vi2 ax
      have l2 := ka.same _ _ (by omega) vl rfl
      have d2 := ka.same _ _ (Nat.le_refl _) vk rfl
      have lt2 : w.heap.size + 1 < V2.heap.size := (Array.getElem?_eq_some_iff.1 l2).1
      refine ⟨_, run_beginRound l2 rfl, ?_⟩
      obtain ⟨V3, hV3⟩ : ∃ V3, V3 = V2.putObj (w.heap.size + 1) (.loop { rc .ready none with state := .busy }) := ⟨_, rfl⟩
      have l3 : V3.heap[w.heap.size + 1]? = some (.loop { rc .ready none with state := .busy }) := by rw [hV3]; exact World.putObj_heap_same lt2
      have d3 : V3.heap[w.heap.size]? = some (.deferred (some [])) := by rw [hV3]; exact (World.putObj_heap_other (by omega)).trans d2
      have kp3 : Kp V2 V3 := by rw [hV3]; exact hKb _ _ _ _ (by omega) l2 rfl rfl
      have i3 : I pre V3 := by rw [hV3]; exact hI.putObj _ vi2 (by omega) l2 rfl
      have a3 : Ax pre x a' V3 := by rw [hV3]; exact (hAx pre x a').putObj (s := ()) _ ax (by omega) l2 rfl
      have close : ∀ (jump : Option Code) (V4 : World), KeepsFrom w.heap.size V3 V4 →
          (Instr.endRound (w.heap.size + 1) jump).run P V4 = .ok (.bool jump.isNone) (V4.putObj (w.heap.size + 1) (.loop (rc (if jump.isNone then .ready else .done) jump))) ∧
          V4.heap[w.heap.size + 1]? = some (.loop { rc .ready none with state := .busy }) ∧
          (V4.putObj (w.heap.size + 1) (.loop (rc (if jump.isNone then .ready else .done) jump))).heap[w.heap.size + 1]? = some (.loop (rc (if jump.isNone then .ready else .done) jump)) ∧
          (V4.putObj (w.heap.size + 1) (.loop (rc (if jump.isNone then .ready else .done) jump))).heap[w.heap.size]? = some (.deferred (some [])) := by
        intro jump V4 k4
        have l4 := k4.same _ _ (by omega) l3 rfl
        exact ⟨run_endRound (P := P) jump l4, l4, World.putObj_heap_same (Array.getElem?_eq_some_iff.1 l4).1, (World.putObj_heap_other (by omega)).trans (k4.same _ _ (Nat.le_refl _) d3 rfl)⟩
      rw [← hV3]
      refine wpIn_mono (hbody _ pre x a' V3 (by omega) ⟨_, l3⟩ i3 a3 hlen) ?_
      rintro e a4 V4 hp
      cases e with
      | normal =>
        obtain ⟨k4, kp4, i4⟩ := hp
        obtain ⟨r1, r2, r3, r4⟩ := close none V4 k4
        exact ⟨_, _, r1, .inl ⟨rfl, ⟨⟨hI.putObj _ i4 (by omega) r2 rfl, r3⟩, r4⟩, hKt kp (hKt (hKt kp3 kp4) (hKb _ _ _ _ (by omega) r2 rfl rfl))⟩⟩
      | ret =>
        obtain ⟨k4, i4⟩ := hp
        obtain ⟨r1, r2, r3, r4⟩ := close (some .ret) V4 k4
        exact ⟨_, _, r1, .inr ⟨rfl, .ret, ⟨(hIx _).putObj _ i4 (by omega) r2 rfl, r3⟩, r4⟩⟩
      | exit id =>
        obtain ⟨k4, i4⟩ := hp
        obtain ⟨r1, r2, r3, r4⟩ := close (some (.exit id)) V4 k4
        exact ⟨_, _, r1, .inr ⟨rfl, .exit id, ⟨(hIx _).putObj _ i4 (by omega) r2 rfl, r3⟩, r4⟩⟩
      | goto t =>
        obtain ⟨k4, i4⟩ := hp
        obtain ⟨r1, r2, r3, r4⟩ := close (some (.goto t)) V4 k4
        exact ⟨_, _, r1, .inr ⟨rfl, .goto t, ⟨(hIx _).putObj _ i4 (by omega) r2 rfl, r3⟩, r4⟩⟩
      | panic ch => exact hp.elim
      | outgrown => exact hp.elim
    · rintro e V ⟨⟨v, rfl⟩, (⟨xs, s1, ⟨i1, l1⟩, k1⟩ | ⟨pre, s1, c, ⟨i1, l1⟩, k1⟩)⟩
      · exact ⟨none, _, run_endLoop (P := P) l1 (by simp [rc]), hdone _ xs _ (Nat.le_refl _) (hS.putObj _ s1 (by omega) l1 rfl) (hI.putObj _ i1 (by omega) l1 rfl) ((World.putObj_heap_other (by omega)).trans k1)⟩
      · exact ⟨some c, _, run_endLoop (P := P) l1 (by simp [rc]), hstop _ c pre _ (Nat.le_refl _) (hSp.putObj _ s1 (by omega) l1 rfl) ((hIx c).putObj _ i1 (by omega) l1 rfl) ((World.putObj_heap_other (by omega)).trans k1)⟩
end Go.Proofs.YtgdlkpfkaehebaaGreatDoor.It
