/- Plain: what a disk of sectors is, and what becomes of it. No program in sight. -/
namespace Go.Proofs.Ytoafebndlldclaa.Dk

abbrev Bs := List UInt8
structure DS where
  olds : List Bs
  news : List (Option Bs)
  fuse : Nat
  off : Bool

def zeros (n : Nat) : Bs := List.replicate n 0
def pad (s : Bs) : Bs := s ++ zeros (64 - s.length)
structure DS.Ok (D : DS) : Prop where
  len : D.news.length = D.olds.length
  lo : 1 ≤ D.olds.length
  hi : D.olds.length ≤ 4096
  old : ∀ s ∈ D.olds, s.length = 64
  new : ∀ s, some s ∈ D.news → s.length = 64
  fuse : D.fuse ≤ 9223372036854775807

def new (n : Nat) : DS := ⟨List.replicate n (zeros 64), List.replicate n none, 0, false⟩
def within (D : DS) (i : Int) : Int := if D.off = true then 180 else if i < 0 ∨ (D.olds.length : Int) ≤ i then 181 else 0
def burn (D : DS) (f : DS → DS) : DS × Int := if D.fuse = 1 then ({ D with fuse := 0, off := true }, 180) else (f { D with fuse := D.fuse - 1 }, 0)
def put (i : Nat) (x : Bs) (D : DS) : DS := { D with news := D.news.set i (some x) }
def write (D : DS) (i : Int) (s : Bs) : DS × Int := if within D i ≠ 0 then (D, within D i) else if 64 < s.length then (D, 1) else burn D (put i.toNat (pad s))
def laid (o : Bs) (x : Option Bs) : Bs := x.getD o
def settle (D : DS) : DS := { D with olds := List.zipWith laid D.olds D.news, news := D.news.map fun _ => none }
def sync (D : DS) : DS × Int := if D.off = true then (D, 180) else burn D settle
def sect (D : DS) (i : Nat) : Bs := laid (D.olds.getD i []) (D.news.getD i none)
def read (D : DS) (i : Int) : Bs × Int := if within D i ≠ 0 then ([], within D i) else (sect D i.toNat, 0)
/-- the places, from k on, at which something was written -/
def dirtyFrom : Nat → List (Option Bs) → List Nat
  | _, [] => []
  | k, none :: r => dirtyFrom (k + 1) r
  | k, some _ :: r => k :: dirtyFrom (k + 1) r
def dirty (D : DS) : List Nat := dirtyFrom 0 D.news
def setFuse (D : DS) (n : Int) : DS := { D with fuse := n.toNat }
def cut (D : DS) : DS := { D with off := true }
/-- how many bytes of what was written are there behind a fate -/
def much (k : Int) : Nat := if k = 1 then 64 else if 1 < k then ((k - 2) % 64).toNat else 0
def torn (o x : Bs) (k : Int) : Bs := x.take (much k) ++ o.drop (much k)
def onL (news : List (Option Bs)) : List Nat → List Int → List Bs → List Bs
  | [], _, o => o
  | i :: l, fs, o => onL news l fs.tail (o.set i (torn (o.getD i []) ((news.getD i none).getD []) (fs.headD 0)))
def on (D : DS) (fates : List Int) : DS × Int :=
  if D.off = true then ({ olds := onL D.news (dirty D) fates D.olds, news := D.news.map fun _ => none, fuse := 0, off := false }, 0) else (D, 5)

theorem zeros_length (n : Nat) : (zeros n).length = n := by simp [zeros]
theorem pad_length {s : Bs} (h : s.length ≤ 64) : (pad s).length = 64 := by simp [pad, zeros]; omega

theorem new_ok {n : Nat} (h1 : 1 ≤ n) (h2 : n ≤ 4096) : (new n).Ok :=
  ⟨by simp [new], by simpa [new] using h1, by simpa [new] using h2, fun s hs => by simp [new] at hs; rw [hs.2, zeros_length], fun s hs => by simp [new] at hs, by simp [new]⟩

theorem within_zero {D : DS} {i : Int} (h : within D i = 0) : D.off = false ∧ 0 ≤ i ∧ i < D.olds.length := by
  unfold within at h
  split at h
  · omega
  · split at h
    · omega
    · rename_i h1 h2
      exact ⟨by simpa using h1, by omega, by omega⟩
theorem within_some {D : DS} {i : Int} (h1 : D.off = false) (h2 : 0 ≤ i) (h3 : i < D.olds.length) : within D i = 0 := by
  unfold within; rw [if_neg (by simp [h1]), if_neg (by omega)]
theorem within_off {D : DS} {i : Int} (h : D.off = true) : within D i = 180 := by unfold within; rw [if_pos h]
theorem within_out {D : DS} {i : Int} (h : D.off = false) (h2 : i < 0 ∨ (D.olds.length : Int) ≤ i) : within D i = 181 := by unfold within; rw [if_neg (by simp [h]), if_pos h2]

theorem Ok.fuse' {D : DS} (h : D.Ok) {f : Nat} (hf : f ≤ 9223372036854775807) (o : Bool) : ({ D with fuse := f, off := o } : DS).Ok := ⟨h.len, h.lo, h.hi, h.old, h.new, hf⟩
theorem DS.Ok.put {D : DS} (h : D.Ok) (i : Nat) {x : Bs} (hx : x.length = 64) : (Dk.put i x D).Ok :=
  ⟨by simp [Dk.put, h.len], h.lo, h.hi, h.old, fun s hs => by
    rcases List.mem_or_eq_of_mem_set hs with hs | hs
    · exact h.new s hs
    · cases hs; exact hx, h.fuse⟩
theorem laid_length {o : Bs} {x : Option Bs} (ho : o.length = 64) (hx : ∀ s, x = some s → s.length = 64) : (laid o x).length = 64 := by
  cases x with
  | none => exact ho
  | some s => exact hx s rfl
theorem DS.Ok.settle {D : DS} (h : D.Ok) : (Dk.settle D).Ok := by
  refine ⟨by simp [Dk.settle, h.len], by simp [Dk.settle, h.len, h.lo], by simp [Dk.settle, h.len, h.hi], ?_, fun s hs => by simp [Dk.settle] at hs, h.fuse⟩
  intro s hs
  obtain ⟨j, hj, rfl⟩ := List.mem_iff_getElem.1 hs
  simp only [Dk.settle, List.length_zipWith] at hj
  simp only [Dk.settle, List.getElem_zipWith]
  exact laid_length (h.old _ (List.getElem_mem _)) (fun s e => h.new s (by rw [← e]; exact List.getElem_mem _))
theorem DS.Ok.burn {D : DS} (h : D.Ok) {f : DS → DS} (hf : ∀ D : DS, D.Ok → (f D).Ok) : (Dk.burn D f).1.Ok := by
  unfold Dk.burn
  split
  · exact Ok.fuse' h (by omega) true
  · exact hf _ (Ok.fuse' h (by have := h.fuse; omega) D.off)
theorem DS.Ok.write {D : DS} (h : D.Ok) (i : Int) (s : Bs) : (Dk.write D i s).1.Ok := by
  unfold Dk.write
  split
  · exact h
  · split
    · exact h
    · exact h.burn fun D hD => hD.put _ (pad_length (by omega))
theorem DS.Ok.sync {D : DS} (h : D.Ok) : (Dk.sync D).1.Ok := by
  unfold Dk.sync
  split
  · exact h
  · exact h.burn fun D hD => hD.settle
theorem DS.Ok.setFuse {D : DS} (h : D.Ok) {n : Int} (hn : n ≤ 9223372036854775807) : (Dk.setFuse D n).Ok := Ok.fuse' h (by omega) D.off
theorem DS.Ok.cut {D : DS} (h : D.Ok) : (Dk.cut D).Ok := Ok.fuse' h h.fuse true

theorem much_le (k : Int) : much k ≤ 64 := by
  unfold much
  split
  · omega
  · split <;> omega
theorem torn_length {o x : Bs} (k : Int) (ho : o.length = 64) (hx : x.length = 64) : (torn o x k).length = 64 := by
  have := much_le k
  simp [torn, ho, hx]; omega

theorem dirtyFrom_mem {l : List (Option Bs)} : ∀ {k i : Nat}, i ∈ dirtyFrom k l ↔ k ≤ i ∧ ∃ s, l[i - k]? = some (some s) := by
  induction l with
  | nil => intro k i; simp [dirtyFrom]
  | cons x l ih =>
    intro k i
    cases x with
    | none =>
      simp only [dirtyFrom, ih]
      constructor
      · rintro ⟨h1, s, h2⟩
        refine ⟨by omega, s, ?_⟩
        rw [show i - k = (i - (k + 1)) + 1 from by omega, List.getElem?_cons_succ]; exact h2
      · rintro ⟨h1, s, h2⟩
        have hne : i ≠ k := by rintro rfl; simp at h2
        refine ⟨by omega, s, ?_⟩
        rw [show i - k = (i - (k + 1)) + 1 from by omega, List.getElem?_cons_succ] at h2; exact h2
    | some y =>
      simp only [dirtyFrom, List.mem_cons, ih]
      constructor
      · rintro (rfl | ⟨h1, s, h2⟩)
        · exact ⟨by omega, y, by simp⟩
        · refine ⟨by omega, s, ?_⟩
          rw [show i - k = (i - (k + 1)) + 1 from by omega, List.getElem?_cons_succ]; exact h2
      · rintro ⟨h1, s, h2⟩
        by_cases hne : i = k
        · exact .inl hne
        · refine .inr ⟨by omega, s, ?_⟩
          rw [show i - k = (i - (k + 1)) + 1 from by omega, List.getElem?_cons_succ] at h2; exact h2

theorem dirtyFrom_sorted {l : List (Option Bs)} : ∀ {k : Nat}, (dirtyFrom k l).Pairwise (· < ·) := by
  induction l with
  | nil => intro k; simp [dirtyFrom]
  | cons x l ih =>
    intro k
    cases x with
    | none => exact ih
    | some y =>
      refine List.pairwise_cons.2 ⟨fun i hi => ?_, ih⟩
      have := (dirtyFrom_mem.1 hi).1
      omega

theorem dirty_mem {D : DS} {i : Nat} : i ∈ dirty D ↔ ∃ s, D.news[i]? = some (some s) := by
  unfold dirty; rw [dirtyFrom_mem]; simp

theorem onL_length (news : List (Option Bs)) : ∀ (l : List Nat) (fs : List Int) (o : List Bs), (onL news l fs o).length = o.length := by
  intro l
  induction l with
  | nil => intro fs o; rfl
  | cons i l ih => intro fs o; simp [onL, ih]

theorem onL_old {news : List (Option Bs)} (hn : ∀ s, some s ∈ news → s.length = 64) : ∀ (l : List Nat) (fs : List Int) (o : List Bs), (∀ i ∈ l, ∃ s, news[i]? = some (some s)) → (∀ s ∈ o, s.length = 64) → news.length = o.length → ∀ s ∈ onL news l fs o, s.length = 64 := by
  intro l
  induction l with
  | nil => intro fs o _ ho _; exact ho
  | cons i l ih =>
    intro fs o hl ho he
    obtain ⟨x, hx⟩ := hl i (by simp)
    have hlt : i < news.length := (List.getElem?_eq_some_iff.1 hx).1
    refine ih _ _ (fun j hj => hl j (by simp [hj])) ?_ (by simp [he])
    intro s hs
    rcases List.mem_or_eq_of_mem_set hs with hs | hs
    · exact ho s hs
    · rw [hs]
      refine torn_length _ ?_ ?_
      · rw [List.getD_eq_getElem?_getD, List.getElem?_eq_getElem (by omega)]; exact ho _ (List.getElem_mem _)
      · rw [List.getD_eq_getElem?_getD, hx]; exact hn x (List.mem_of_getElem? hx)

theorem DS.Ok.on {D : DS} (h : D.Ok) (fates : List Int) : (Dk.on D fates).1.Ok := by
  unfold Dk.on
  split
  · refine ⟨by simp [onL_length, h.len], by simp [onL_length, h.lo], by simp [onL_length, h.hi], ?_, fun s hs => by simp at hs, by simp⟩
    exact onL_old h.new _ _ _ (fun i hi => dirty_mem.1 hi) h.old h.len
  · exact h

theorem sect_length {D : DS} (h : D.Ok) {i : Nat} (hi : i < D.olds.length) : (sect D i).length = 64 := by
  unfold sect
  refine laid_length ?_ fun s e => ?_
  · rw [List.getD_eq_getElem?_getD, List.getElem?_eq_getElem hi]; exact h.old _ (List.getElem_mem _)
  · rw [List.getD_eq_getElem?_getD] at e
    cases hx : D.news[i]? with
    | none => rw [hx] at e; cases e
    | some y => rw [hx] at e; cases e; exact h.new s (List.mem_of_getElem? hx)

end Go.Proofs.Ytoafebndlldclaa.Dk
