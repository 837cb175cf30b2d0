/- Plain: the disk of sectors, frames and their sums, records, logs. No program in sight. -/

namespace Go.Proofs.YtoafebndlldclaaDoor.Dk

abbrev Bs := List UInt8
structure DS where
  olds : List Bs
  news : List (Option Bs)
  fuse : Nat
  off : Bool

def zeros (n : Nat) : Bs := List.replicate n 0
def pad (s : Bs) : Bs := s ++ zeros (64 - s.length)
structure DS.Ok (D : DS) : Prop where
  len : D.news.length = D.olds.length
  lo : 1 ≤ D.olds.length
  hi : D.olds.length ≤ 4096
  old : ∀ s ∈ D.olds, s.length = 64
  new : ∀ s, some s ∈ D.news → s.length = 64
  fuse : D.fuse ≤ 9223372036854775807

def new (n : Nat) : DS := ⟨List.replicate n (zeros 64), List.replicate n none, 0, false⟩
def within (D : DS) (i : Int) : Int := if D.off = true then 180 else if i < 0 ∨ (D.olds.length : Int) ≤ i then 181 else 0
def burn (D : DS) (f : DS → DS) : DS × Int := if D.fuse = 1 then ({ D with fuse := 0, off := true }, 180) else (f { D with fuse := D.fuse - 1 }, 0)
def put (i : Nat) (x : Bs) (D : DS) : DS := { D with news := D.news.set i (some x) }
def write (D : DS) (i : Int) (s : Bs) : DS × Int := if within D i ≠ 0 then (D, within D i) else if 64 < s.length then (D, 1) else burn D (put i.toNat (pad s))
def laid (o : Bs) (x : Option Bs) : Bs := x.getD o
def settle (D : DS) : DS := { D with olds := List.zipWith laid D.olds D.news, news := D.news.map fun _ => none }
def sync (D : DS) : DS × Int := if D.off = true then (D, 180) else burn D settle
def sect (D : DS) (i : Nat) : Bs := laid (D.olds.getD i []) (D.news.getD i none)
def read (D : DS) (i : Int) : Bs × Int := if within D i ≠ 0 then ([], within D i) else (sect D i.toNat, 0)
/-- the places, from k on, at which something was written -/
def dirtyFrom : Nat → List (Option Bs) → List Nat
  | _, [] => []
  | k, none :: r => dirtyFrom (k + 1) r
  | k, some _ :: r => k :: dirtyFrom (k + 1) r
def dirty (D : DS) : List Nat := dirtyFrom 0 D.news
def setFuse (D : DS) (n : Int) : DS := { D with fuse := n.toNat }
def cut (D : DS) : DS := { D with off := true }
/-- how many bytes of what was written are there behind a fate -/
def much (k : Int) : Nat := if k = 1 then 64 else if 1 < k then ((k - 2) % 64).toNat else 0
def torn (o x : Bs) (k : Int) : Bs := x.take (much k) ++ o.drop (much k)
def onL (news : List (Option Bs)) : List Nat → List Int → List Bs → List Bs
  | [], _, o => o
  | i :: l, fs, o => onL news l fs.tail (o.set i (torn (o.getD i []) ((news.getD i none).getD []) (fs.headD 0)))
def on (D : DS) (fates : List Int) : DS × Int :=
  if D.off = true then ({ olds := onL D.news (dirty D) fates D.olds, news := D.news.map fun _ => none, fuse := 0, off := false }, 0) else (D, 5)

theorem zeros_length (n : Nat) : (zeros n).length = n := by simp [zeros]
theorem pad_length {s : Bs} (h : s.length ≤ 64) : (pad s).length = 64 := by simp [pad, zeros]; omega

theorem new_ok {n : Nat} (h1 : 1 ≤ n) (h2 : n ≤ 4096) : (new n).Ok :=
  ⟨by simp [new], by simpa [new] using h1, by simpa [new] using h2, fun s hs => by simp [new] at hs; rw [hs.2, zeros_length], fun s hs => by simp [new] at hs, by simp [new]⟩

theorem within_zero {D : DS} {i : Int} (h : within D i = 0) : D.off = false ∧ 0 ≤ i ∧ i < D.olds.length := by
  unfold within at h
  split at h
  · omega
  · split at h
    · omega
    · rename_i h1 h2
      exact ⟨by simpa using h1, by omega, by omega⟩
theorem within_some {D : DS} {i : Int} (h1 : D.off = false) (h2 : 0 ≤ i) (h3 : i < D.olds.length) : within D i = 0 := by
  unfold within; rw [if_neg (by simp [h1]), if_neg (by omega)]
theorem within_off {D : DS} {i : Int} (h : D.off = true) : within D i = 180 := by unfold within; rw [if_pos h]
theorem within_out {D : DS} {i : Int} (h : D.off = false) (h2 : i < 0 ∨ (D.olds.length : Int) ≤ i) : within D i = 181 := by unfold within; rw [if_neg (by simp [h]), if_pos h2]

theorem Ok.fuse' {D : DS} (h : D.Ok) {f : Nat} (hf : f ≤ 9223372036854775807) (o : Bool) : ({ D with fuse := f, off := o } : DS).Ok := ⟨h.len, h.lo, h.hi, h.old, h.new, hf⟩
theorem DS.Ok.put {D : DS} (h : D.Ok) (i : Nat) {x : Bs} (hx : x.length = 64) : (Dk.put i x D).Ok :=
  ⟨by simp [Dk.put, h.len], h.lo, h.hi, h.old, fun s hs => by
    rcases List.mem_or_eq_of_mem_set hs with hs | hs
    · exact h.new s hs
    · cases hs; exact hx, h.fuse⟩
theorem laid_length {o : Bs} {x : Option Bs} (ho : o.length = 64) (hx : ∀ s, x = some s → s.length = 64) : (laid o x).length = 64 := by
  cases x with
  | none => exact ho
  | some s => exact hx s rfl
theorem DS.Ok.settle {D : DS} (h : D.Ok) : (Dk.settle D).Ok := by
  refine ⟨by simp [Dk.settle, h.len], by simp [Dk.settle, h.len, h.lo], by simp [Dk.settle, h.len, h.hi], ?_, fun s hs => by simp [Dk.settle] at hs, h.fuse⟩
  intro s hs
  obtain ⟨j, hj, rfl⟩ := List.mem_iff_getElem.1 hs
  simp only [Dk.settle, List.length_zipWith] at hj
  simp only [Dk.settle, List.getElem_zipWith]
  exact laid_length (h.old _ (List.getElem_mem _)) (fun s e => h.new s (by rw [← e]; exact List.getElem_mem _))
theorem DS.Ok.burn {D : DS} (h : D.Ok) {f : DS → DS} (hf : ∀ D : DS, D.Ok → (f D).Ok) : (Dk.burn D f).1.Ok := by
  unfold Dk.burn
  split
  · exact Ok.fuse' h (by omega) true
  · exact hf _ (Ok.fuse' h (by have := h.fuse; omega) D.off)
theorem DS.Ok.write {D : DS} (h : D.Ok) (i : Int) (s : Bs) : (Dk.write D i s).1.Ok := by
  unfold Dk.write
  split
  · exact h
  · split
    · exact h
    · exact h.burn fun D hD => hD.put _ (pad_length (by omega))
theorem DS.Ok.sync {D : DS} (h : D.Ok) : (Dk.sync D).1.Ok := by
  unfold Dk.sync
  split
  · exact h
  · exact h.burn fun D hD => hD.settle
theorem DS.Ok.setFuse {D : DS} (h : D.Ok) {n : Int} (hn : n ≤ 9223372036854775807) : (Dk.setFuse D n).Ok := Ok.fuse' h (by omega) D.off
theorem DS.Ok.cut {D : DS} (h : D.Ok) : (Dk.cut D).Ok := Ok.fuse' h h.fuse true

theorem much_le (k : Int) : much k ≤ 64 := by
  unfold much
  split
  · omega
  · split <;> omega
theorem torn_length {o x : Bs} (k : Int) (ho : o.length = 64) (hx : x.length = 64) : (torn o x k).length = 64 := by
  have := much_le k
  simp [torn, ho, hx]; omega

theorem dirtyFrom_mem {l : List (Option Bs)} : ∀ {k i : Nat}, i ∈ dirtyFrom k l ↔ k ≤ i ∧ ∃ s, l[i - k]? = some (some s) := by
  induction l with
  | nil => intro k i; simp [dirtyFrom]
  | cons x l ih =>
    intro k i
    cases x with
    | none =>
      simp only [dirtyFrom, ih]
      constructor
      · rintro ⟨h1, s, h2⟩
        refine ⟨by omega, s, ?_⟩
        rw [show i - k = (i - (k + 1)) + 1 from by omega, List.getElem?_cons_succ]; exact h2
      · rintro ⟨h1, s, h2⟩
        have hne : i ≠ k := by rintro rfl; simp at h2
        refine ⟨by omega, s, ?_⟩
        rw [show i - k = (i - (k + 1)) + 1 from by omega, List.getElem?_cons_succ] at h2; exact h2
    | some y =>
      simp only [dirtyFrom, List.mem_cons, ih]
      constructor
      · rintro (rfl | ⟨h1, s, h2⟩)
        · exact ⟨by omega, y, by simp⟩
        · refine ⟨by omega, s, ?_⟩
          rw [show i - k = (i - (k + 1)) + 1 from by omega, List.getElem?_cons_succ]; exact h2
      · rintro ⟨h1, s, h2⟩
        by_cases hne : i = k
        · exact .inl hne
        · refine .inr ⟨by omega, s, ?_⟩
          rw [show i - k = (i - (k + 1)) + 1 from by omega, List.getElem?_cons_succ] at h2; exact h2

theorem dirtyFrom_sorted {l : List (Option Bs)} : ∀ {k : Nat}, (dirtyFrom k l).Pairwise (· < ·) := by
  induction l with
  | nil => intro k; simp [dirtyFrom]
  | cons x l ih =>
    intro k
    cases x with
    | none => exact ih
    | some y =>
      refine List.pairwise_cons.2 ⟨fun i hi => ?_, ih⟩
      have := (dirtyFrom_mem.1 hi).1
      omega

theorem dirty_mem {D : DS} {i : Nat} : i ∈ dirty D ↔ ∃ s, D.news[i]? = some (some s) := by
  unfold dirty; rw [dirtyFrom_mem]; simp

theorem onL_length (news : List (Option Bs)) : ∀ (l : List Nat) (fs : List Int) (o : List Bs), (onL news l fs o).length = o.length := by
  intro l
  induction l with
  | nil => intro fs o; rfl
  | cons i l ih => intro fs o; simp [onL, ih]

theorem onL_old {news : List (Option Bs)} (hn : ∀ s, some s ∈ news → s.length = 64) : ∀ (l : List Nat) (fs : List Int) (o : List Bs), (∀ i ∈ l, ∃ s, news[i]? = some (some s)) → (∀ s ∈ o, s.length = 64) → news.length = o.length → ∀ s ∈ onL news l fs o, s.length = 64 := by
  intro l
  induction l with
  | nil => intro fs o _ ho _; exact ho
  | cons i l ih =>
    intro fs o hl ho he
    obtain ⟨x, hx⟩ := hl i (by simp)
    have hlt : i < news.length := (List.getElem?_eq_some_iff.1 hx).1
    refine ih _ _ (fun j hj => hl j (by simp [hj])) ?_ (by simp [he])
    intro s hs
    rcases List.mem_or_eq_of_mem_set hs with hs | hs
    · exact ho s hs
    · rw [hs]
      refine torn_length _ ?_ ?_
      · rw [List.getD_eq_getElem?_getD, List.getElem?_eq_getElem (by omega)]; exact ho _ (List.getElem_mem _)
      · rw [List.getD_eq_getElem?_getD, hx]; exact hn x (List.mem_of_getElem? hx)

theorem DS.Ok.on {D : DS} (h : D.Ok) (fates : List Int) : (Dk.on D fates).1.Ok := by
  unfold Dk.on
  split
  · refine ⟨by simp [onL_length, h.len], by simp [onL_length, h.lo], by simp [onL_length, h.hi], ?_, fun s hs => by simp at hs, by simp⟩
    exact onL_old h.new _ _ _ (fun i hi => dirty_mem.1 hi) h.old h.len
  · exact h

theorem sect_length {D : DS} (h : D.Ok) {i : Nat} (hi : i < D.olds.length) : (sect D i).length = 64 := by
  unfold sect
  refine laid_length ?_ fun s e => ?_
  · rw [List.getD_eq_getElem?_getD, List.getElem?_eq_getElem hi]; exact h.old _ (List.getElem_mem _)
  · rw [List.getD_eq_getElem?_getD] at e
    cases hx : D.news[i]? with
    | none => rw [hx] at e; cases e
    | some y => rw [hx] at e; cases e; exact h.new s (List.mem_of_getElem? hx)

end Go.Proofs.YtoafebndlldclaaDoor.Dk

namespace Go.Proofs.YtoafebndlldclaaDoor.Crc

/-- one bit of the sum -/
def half (n : Nat) : Nat := (n / 2) ^^^ (if n % 2 = 1 then 3988292384 else 0)
def halves : Nat → Nat → Nat
  | 0, n => n
  | k + 1, n => halves k (half n)
/-- one byte of the sum -/
def byte (n c : Nat) : Nat := halves 8 (n ^^^ c)
def run (n : Nat) (l : List UInt8) : Nat := l.foldl (fun n c => byte n c.toNat) n
def crc (l : List UInt8) : Nat := run 4294967295 l ^^^ 4294967295

theorem half_lt {n : Nat} (h : n < 4294967296) : half n < 4294967296 := by
  unfold half
  have : n / 2 < 2 ^ 32 := by omega
  have h2 : (if n % 2 = 1 then 3988292384 else 0) < 2 ^ 32 := by split <;> omega
  exact Nat.xor_lt_two_pow this h2

theorem halves_lt (k : Nat) : ∀ {n : Nat}, n < 4294967296 → halves k n < 4294967296 := by
  induction k with
  | zero => intro n h; exact h
  | succ k ih => intro n h; exact ih (half_lt h)

theorem halves_succ (k : Nat) : ∀ n, halves (k + 1) n = half (halves k n) := by
  induction k with
  | zero => intro n; rfl
  | succ k ih => intro n; show halves (k + 1) (half n) = _; rw [ih]; rfl

theorem halves_add (j k : Nat) : ∀ n, halves (j + k) n = halves k (halves j n) := by
  induction j with
  | zero => intro n; simp [halves]
  | succ j ih => intro n; rw [show j + 1 + k = (j + k) + 1 from by omega]; show halves (j + k) (half n) = _; rw [ih]; rfl

theorem byte_lt {n c : Nat} (h : n < 4294967296) (hc : c < 256) : byte n c < 4294967296 :=
  halves_lt 8 (Nat.xor_lt_two_pow (n := 32) (by omega) (by omega))

theorem run_lt (l : List UInt8) : ∀ {n : Nat}, n < 4294967296 → run n l < 4294967296 := by
  induction l with
  | nil => intro n h; exact h
  | cons c l ih => intro n h; exact ih (byte_lt h (by have := c.toNat_lt; omega))

theorem crc_lt (l : List UInt8) : crc l < 4294967296 :=
  Nat.xor_lt_two_pow (n := 32) (run_lt l (by omega)) (by omega)

theorem run_snoc (n : Nat) (l : List UInt8) (c : UInt8) : run n (l ++ [c]) = byte (run n l) c.toNat := by
  unfold run; rw [List.foldl_append]; rfl

theorem xor_div2 (a b : Nat) : (a ^^^ b) / 2 = (a / 2) ^^^ (b / 2) := by
  have := Nat.shiftRight_xor_distrib (a := a) (b := b) (i := 1)
  simpa [Nat.shiftRight_eq_div_pow] using this

theorem xor_mod2 (a b : Nat) : (a ^^^ b) % 2 = (a % 2 + b % 2) % 2 := by
  have h := Nat.testBit_xor a b 0
  simp only [Nat.testBit_zero] at h
  rcases Nat.mod_two_eq_zero_or_one a with ha | ha <;> rcases Nat.mod_two_eq_zero_or_one b with hb | hb <;>
    rcases Nat.mod_two_eq_zero_or_one (a ^^^ b) with hc | hc <;> simp [ha, hb, hc] at h ⊢

theorem half_xor (a b : Nat) : half (a ^^^ b) = half a ^^^ half b := by
  unfold half
  rw [xor_div2, xor_mod2]
  rcases Nat.mod_two_eq_zero_or_one a with ha | ha <;> rcases Nat.mod_two_eq_zero_or_one b with hb | hb <;>
    simp only [ha, hb, Nat.reduceAdd, Nat.reduceMod, Nat.zero_mod, if_true, Nat.zero_ne_one, if_false, Nat.xor_zero, Nat.one_mod]
  · rw [Nat.xor_assoc]
  · rw [Nat.xor_assoc, Nat.xor_assoc, Nat.xor_comm 3988292384]
  · rw [show a / 2 ^^^ 3988292384 ^^^ (b / 2 ^^^ 3988292384) = a / 2 ^^^ b / 2 ^^^ (3988292384 ^^^ 3988292384) from by
      rw [Nat.xor_assoc, Nat.xor_assoc, Nat.xor_comm 3988292384 (b / 2 ^^^ 3988292384), Nat.xor_assoc]]
    simp

theorem halves_xor (k : Nat) : ∀ a b, halves k (a ^^^ b) = halves k a ^^^ halves k b := by
  induction k with
  | zero => intro a b; rfl
  | succ k ih => intro a b; show halves k (half (a ^^^ b)) = _; rw [half_xor, ih]; rfl

theorem half_even (m : Nat) : half (2 * m) = m := by
  unfold half
  rw [show 2 * m / 2 = m from by omega, show 2 * m % 2 = 0 from by omega]
  simp

theorem halves_four (m : Nat) : halves 4 (16 * m) = m := by
  show half (half (half (half (16 * m)))) = m
  rw [show 16 * m = 2 * (2 * (2 * (2 * m))) from by omega]
  simp only [half_even]

theorem split16 (n : Nat) : n = 16 * (n / 16) ^^^ n % 16 := by
  have h : 16 * (n / 16) ^^^ n % 16 = 16 * (n / 16) + n % 16 := by
    rw [show 16 * (n / 16) = 2 ^ 4 * (n / 16) from rfl]
    have := Nat.two_pow_add_eq_or_of_lt (i := 4) (b := n % 16) (by omega) (n / 16)
    rw [this]
    apply Nat.eq_of_testBit_eq
    intro i
    rw [Nat.testBit_xor, Nat.testBit_or, Nat.testBit_two_pow_mul]
    by_cases hi : i < 4
    · simp [Nat.not_le.2 hi]
    · have : (n % 16).testBit i = false := Nat.testBit_lt_two_pow (Nat.lt_of_lt_of_le (by omega : n % 16 < 2 ^ 4) (Nat.pow_le_pow_right (by omega) (by omega)))
      rw [this]; simp
  omega

/-- half a byte at a time, by the table -/
theorem nib (n : Nat) : (n / 16) ^^^ halves 4 (n % 16) = halves 4 n := by
  conv => rhs; rw [split16 n, halves_xor, halves_four]

theorem byte_nibs (n c : Nat) : halves 4 (halves 4 (n ^^^ c)) = byte n c := (halves_add 4 4 _).symm

end Go.Proofs.YtoafebndlldclaaDoor.Crc

namespace Go.Proofs.YtoafebndlldclaaDoor.Num

def fixL (n : Nat) : Nat → List UInt8
  | 0 => []
  | k + 1 => fixL (n / 256) k ++ [UInt8.ofNat n]
def numF (n : Nat) (l : List UInt8) : Nat := l.foldl (fun n c => n * 256 + c.toNat) n
def numL (l : List UInt8) : Nat := numF 0 l

theorem fixL_length (k : Nat) : ∀ n, (fixL n k).length = k := by
  induction k with
  | zero => intro n; rfl
  | succ k ih => intro n; simp [fixL, ih]

theorem numF_snoc (n : Nat) (l : List UInt8) (c : UInt8) : numF n (l ++ [c]) = numF n l * 256 + c.toNat := by
  unfold numF; rw [List.foldl_append]; rfl

theorem numF_lt (l : List UInt8) : ∀ {n m : Nat}, n < 256 ^ m → numF n l < 256 ^ (m + l.length) := by
  induction l with
  | nil => intro n m h; exact h
  | cons c l ih =>
    intro n m h
    have := c.toNat_lt
    have h2 : n * 256 + c.toNat < 256 ^ (m + 1) := by rw [Nat.pow_succ]; omega
    have := ih h2
    show numF (n * 256 + c.toNat) l < _
    rw [show m + (c :: l).length = m + 1 + l.length from by simp; omega]
    exact this

theorem numL_lt (l : List UInt8) : numL l < 256 ^ l.length := by
  have := numF_lt l (n := 0) (m := 0) (by decide)
  simpa [numL] using this

theorem numL_lt64 {l : List UInt8} (h : l.length ≤ 8) : numL l < 18446744073709551616 := by
  have h1 := numL_lt l
  have h2 : 256 ^ l.length ≤ 256 ^ 8 := Nat.pow_le_pow_right (by omega) h
  omega

theorem numL_fixL (k : Nat) : ∀ n, numL (fixL n k) = n % 256 ^ k := by
  induction k with
  | zero => intro n; simp [fixL, numL, numF, Nat.mod_one]
  | succ k ih =>
    intro n
    show numF 0 (fixL (n / 256) k ++ [UInt8.ofNat n]) = _
    rw [numF_snoc, show numF 0 (fixL (n / 256) k) = numL (fixL (n / 256) k) from rfl, ih]
    rw [show (UInt8.ofNat n).toNat = n % 256 from by simp, Nat.pow_succ, Nat.mul_comm (256 ^ k) 256, Nat.mod_mul]
    omega

theorem fixL_numL (l : List UInt8) : ∀ k, l.length = k → fixL (numL l) k = l := by
  intro k
  induction k generalizing l with
  | zero => intro h; simp at h; subst h; rfl
  | succ k ih =>
    intro h
    have hne : l ≠ [] := by intro e; subst e; simp at h
    obtain ⟨l', c, rfl⟩ : ∃ l' c, l = l' ++ [c] := ⟨l.dropLast, l.getLast hne, (List.dropLast_concat_getLast hne).symm⟩
    have hl : l'.length = k := by simpa using h
    have hc := c.toNat_lt
    rw [show numL (l' ++ [c]) = numL l' * 256 + c.toNat from numF_snoc 0 l' c]
    show fixL ((numL l' * 256 + c.toNat) / 256) k ++ [UInt8.ofNat (numL l' * 256 + c.toNat)] = _
    rw [show (numL l' * 256 + c.toNat) / 256 = numL l' from by omega, ih l' hl]
    congr 1
    congr 1
    apply UInt8.toNat_inj.1
    simp

/-- the bytes of the block, when the lowest j of k are written -/
def part (n k j : Nat) : List UInt8 := List.replicate (k - j) 0 ++ (fixL n k).drop (k - j)

theorem fixL_get (k : Nat) : ∀ n i, i < k → (fixL n k)[i]? = some (UInt8.ofNat (n / 256 ^ (k - 1 - i))) := by
  induction k with
  | zero => intro n i h; omega
  | succ k ih =>
    intro n i h
    show (fixL (n / 256) k ++ [UInt8.ofNat n])[i]? = _
    by_cases hi : i < k
    · rw [List.getElem?_append_left (by rw [fixL_length]; exact hi), ih _ _ hi]
      rw [Nat.div_div_eq_div_mul, ← Nat.pow_succ']
      rw [show k + 1 - 1 - i = (k - 1 - i).succ from by omega]
    · obtain rfl : i = k := by omega
      rw [List.getElem?_append_right (by rw [fixL_length]; omega)]
      simp [fixL_length]

theorem part_length (n k j : Nat) (h : j ≤ k) : (part n k j).length = k := by
  unfold part; simp only [List.length_append, List.length_replicate, List.length_drop, fixL_length]; omega

theorem part_zero (n k : Nat) : part n k 0 = List.replicate k 0 := by
  unfold part; simp [fixL_length]

theorem part_full (n k : Nat) : part n k k = fixL n k := by
  unfold part; simp

theorem part_set (n k j : Nat) (h : j < k) : (part n k j).set (k - 1 - j) (UInt8.ofNat (n / 256 ^ j)) = part n k (j + 1) := by
  apply List.ext_getElem?
  intro i
  unfold part
  rw [List.getElem?_set]
  by_cases hi : k - 1 - j = i
  · subst hi
    rw [if_pos rfl, if_pos (by simp [fixL_length]; omega)]
    rw [List.getElem?_append_right (by simp; omega), List.getElem?_drop, fixL_get _ _ _ (by simp; omega)]
    simp only [List.length_replicate]
    rw [show k - 1 - (k - (j + 1) + (k - 1 - j - (k - (j + 1)))) = j from by omega]
  · rw [if_neg hi]
    by_cases h2 : i < k - (j + 1)
    · rw [List.getElem?_append_left (by simp; omega), List.getElem?_append_left (by simp; omega)]
      rw [List.getElem?_replicate, List.getElem?_replicate, if_pos (by omega), if_pos (by omega)]
    · rw [List.getElem?_append_right (by simp; omega), List.getElem?_append_right (by simp; omega), List.getElem?_drop, List.getElem?_drop]
      simp only [List.length_replicate]
      congr 1; omega

end Go.Proofs.YtoafebndlldclaaDoor.Num

namespace Go.Proofs.YtoafebndlldclaaDoor.Fr
open Num Crc

def ba (l : List UInt8) : ByteArray := ⟨l.toArray⟩
@[simp] theorem ba_size (l : List UInt8) : (ba l).size = l.length := by simp [ba, ByteArray.size]
@[simp] theorem ba_list (l : List UInt8) : (ba l).data.toList = l := by simp [ba]
theorem ba_of (s : ByteArray) : ba s.data.toList = s := by simp [ba]
theorem ba_append (l m : List UInt8) : ba l ++ ba m = ba (l ++ m) := by
  apply ByteArray.ext; simp [ba]
theorem ba_inj {l m : List UInt8} (h : ba l = ba m) : l = m := by have := congrArg (fun s => s.data.toList) h; simpa using this
theorem ext_list {s t : ByteArray} (h : s.data.toList = t.data.toList) : s = t := by rw [← ba_of s, ← ba_of t, h]
theorem extract_list (s : ByteArray) (a b : Nat) : (s.extract a b).data.toList = (s.data.toList.take b).drop a := by
  simp [List.take_drop]
  by_cases h : a ≤ b
  · rw [show a + (b - a) = b from by omega]
  · rw [List.drop_eq_nil_of_le (by simp; omega), List.drop_eq_nil_of_le (by simp; omega)]
theorem list_size (s : ByteArray) : s.data.toList.length = s.size := by simp

def bodyL (q e : Nat) (t : List UInt8) : List UInt8 := fixL t.length 4 ++ fixL q 8 ++ fixL e 8 ++ t
def putL (q e : Nat) (t : List UInt8) : List UInt8 := bodyL q e t ++ fixL (crc (bodyL q e t)) 4

theorem bodyL_length (q e : Nat) (t : List UInt8) : (bodyL q e t).length = 20 + t.length := by simp [bodyL, fixL_length]; omega
theorem putL_length (q e : Nat) (t : List UInt8) : (putL q e t).length = 24 + t.length := by simp [putL, bodyL_length, fixL_length]; omega

/-- what a text begins by: the frame's three parts, the rest, the error -/
def firstL (s : List UInt8) : Nat × Nat × List UInt8 × List UInt8 × Nat :=
  if s.length = 0 then (0, 0, [], [], 3)
  else if s.length < 24 then (0, 0, [], [], 60)
  else
    let n := numL (s.take 4)
    if n > 8192 then (0, 0, [], [], 71)
    else if s.length < 24 + n then (0, 0, [], [], 60)
    else if crc (s.take (20 + n)) = numL ((s.take (24 + n)).drop (20 + n)) then
      (numL ((s.take 12).drop 4), numL ((s.take 20).drop 12), (s.take (20 + n)).drop 20, s.drop (24 + n), 0)
    else (0, 0, [], [], 70)

theorem firstL_empty {s : List UInt8} (h0 : s.length = 0) : firstL s = (0, 0, [], [], 3) := by unfold firstL; rw [if_pos h0]
theorem firstL_short {s : List UInt8} (h0 : ¬ s.length = 0) (h1 : s.length < 24) : firstL s = (0, 0, [], [], 60) := by unfold firstL; rw [if_neg h0, if_pos h1]
theorem firstL_cap {s : List UInt8} (h1 : ¬ s.length < 24) (h2 : numL (s.take 4) > 8192) : firstL s = (0, 0, [], [], 71) := by
  unfold firstL; rw [if_neg (by omega), if_neg h1]; dsimp only; rw [if_pos h2]
theorem firstL_cut {s : List UInt8} (h1 : ¬ s.length < 24) (h2 : ¬ numL (s.take 4) > 8192) (h3 : s.length < 24 + numL (s.take 4)) : firstL s = (0, 0, [], [], 60) := by
  unfold firstL; rw [if_neg (by omega), if_neg h1]; dsimp only; rw [if_neg h2, if_pos h3]
theorem firstL_sum {s : List UInt8} (h1 : ¬ s.length < 24) (h2 : ¬ numL (s.take 4) > 8192) (h3 : ¬ s.length < 24 + numL (s.take 4))
    (h4 : ¬ crc (s.take (20 + numL (s.take 4))) = numL ((s.take (24 + numL (s.take 4))).drop (20 + numL (s.take 4)))) : firstL s = (0, 0, [], [], 70) := by
  unfold firstL; rw [if_neg (by omega), if_neg h1]; dsimp only; rw [if_neg h2, if_neg h3, if_neg h4]
theorem firstL_ok {s : List UInt8} (h1 : ¬ s.length < 24) (h2 : ¬ numL (s.take 4) > 8192) (h3 : ¬ s.length < 24 + numL (s.take 4))
    (h4 : crc (s.take (20 + numL (s.take 4))) = numL ((s.take (24 + numL (s.take 4))).drop (20 + numL (s.take 4)))) :
    firstL s = (numL ((s.take 12).drop 4), numL ((s.take 20).drop 12), (s.take (20 + numL (s.take 4))).drop 20, s.drop (24 + numL (s.take 4)), 0) := by
  unfold firstL; rw [if_neg (by omega), if_neg h1]; dsimp only; rw [if_neg h2, if_neg h3, if_pos h4]

def asV (x : Nat × Nat × List UInt8 × List UInt8 × Nat) : Int × Int × ByteArray × ByteArray × Int :=
  ((x.1 : Int), (x.2.1 : Int), ba x.2.2.1, ba x.2.2.2.1, (x.2.2.2.2 : Int))

theorem first_put (q e : Nat) (t more : List UInt8) (hq : q < 18446744073709551616) (he : e < 18446744073709551616) (ht : t.length ≤ 8192) :
    firstL (putL q e t ++ more) = (q, e, t, more, 0) := by
  have h4 := fixL_length 4 t.length
  have hq8 := fixL_length 8 q
  have he8 := fixL_length 8 e
  have hb := bodyL_length q e t
  have hc4 := fixL_length 4 (crc (bodyL q e t))
  have hcl := crc_lt (bodyL q e t)
  have hp := putL_length q e t
  have en : numL ((putL q e t ++ more).take 4) = t.length := by
    have : (putL q e t ++ more).take 4 = fixL t.length 4 := by
      simp only [putL, bodyL, List.append_assoc]
      rw [List.take_append_of_le_length (by omega), List.take_of_length_le (by omega)]
    rw [this, numL_fixL]; exact Nat.mod_eq_of_lt (by omega)
  have eb : (putL q e t ++ more).take (20 + t.length) = bodyL q e t := by
    rw [putL, List.append_assoc, List.take_append_of_le_length (by omega), List.take_of_length_le (by omega)]
  have ep : (putL q e t ++ more).take (24 + t.length) = putL q e t := by
    rw [List.take_append_of_le_length (by omega), List.take_of_length_le (by omega)]
  have ec : ((putL q e t ++ more).take (24 + t.length)).drop (20 + t.length) = fixL (crc (bodyL q e t)) 4 := by
    rw [ep, putL, List.drop_append_of_le_length (by omega), List.drop_eq_nil_of_le (by omega), List.nil_append]
  have e12 : ((putL q e t ++ more).take 12).drop 4 = fixL q 8 := by
    have : (putL q e t ++ more).take 12 = fixL t.length 4 ++ fixL q 8 := by
      simp only [putL, bodyL, List.append_assoc]
      rw [← List.append_assoc (fixL t.length 4), List.take_append_of_le_length (by simp; omega), List.take_of_length_le (by simp; omega)]
    rw [this, List.drop_append_of_le_length (by omega), List.drop_eq_nil_of_le (by omega), List.nil_append]
  have e20 : ((putL q e t ++ more).take 20).drop 12 = fixL e 8 := by
    have : (putL q e t ++ more).take 20 = (fixL t.length 4 ++ fixL q 8) ++ fixL e 8 := by
      simp only [putL, bodyL, List.append_assoc]
      rw [← List.append_assoc (fixL q 8), ← List.append_assoc (fixL t.length 4), List.take_append_of_le_length (by simp; omega), List.take_of_length_le (by simp; omega)]
    rw [this, List.drop_append_of_le_length (by simp; omega), List.drop_eq_nil_of_le (by simp; omega), List.nil_append]
  have et : ((putL q e t ++ more).take (20 + t.length)).drop 20 = t := by
    rw [eb, bodyL, List.drop_append_of_le_length (by simp; omega), List.drop_eq_nil_of_le (by simp; omega), List.nil_append]
  have er : (putL q e t ++ more).drop (24 + t.length) = more := by
    rw [List.drop_append_of_le_length (by omega), List.drop_eq_nil_of_le (by omega), List.nil_append]
  unfold firstL
  simp only [en, ec, eb, e12, e20, er, numL_fixL]
  rw [show (bodyL q e t).drop 20 = t from by rw [← eb]; exact et]
  rw [if_neg (by rw [List.length_append]; omega), if_neg (by rw [List.length_append]; omega), if_neg (by omega), if_neg (by rw [List.length_append]; omega), if_pos (Nat.mod_eq_of_lt (by omega : crc (bodyL q e t) < 256 ^ 4)).symm]
  rw [Nat.mod_eq_of_lt (by omega : q < 256 ^ 8), Nat.mod_eq_of_lt (by omega : e < 256 ^ 8)]

theorem cut3 (s : List UInt8) (a b : Nat) (h : a ≤ b) : s.take a ++ (s.take b).drop a = s.take b := by
  have := List.take_append_drop a (s.take b)
  rw [List.take_take, Nat.min_eq_left h] at this
  exact this

/-- what is told as a frame is one -/
theorem put_first {s : List UInt8} {q e : Nat} {t r : List UInt8} (h : firstL s = (q, e, t, r, 0)) :
    putL q e t ++ r = s ∧ q < 18446744073709551616 ∧ e < 18446744073709551616 ∧ t.length ≤ 8192 := by
  unfold firstL at h
  by_cases h0 : s.length = 0
  · rw [if_pos h0] at h; simp at h
  rw [if_neg h0] at h
  by_cases h1 : s.length < 24
  · rw [if_pos h1] at h; simp at h
  rw [if_neg h1] at h
  simp only at h
  by_cases h2 : numL (s.take 4) > 8192
  · rw [if_pos h2] at h; simp at h
  rw [if_neg h2] at h
  by_cases h3 : s.length < 24 + numL (s.take 4)
  · rw [if_pos h3] at h; simp at h
  rw [if_neg h3] at h
  by_cases h4 : crc (s.take (20 + numL (s.take 4))) = numL ((s.take (24 + numL (s.take 4))).drop (20 + numL (s.take 4)))
  rotate_left
  · rw [if_neg h4] at h; simp at h
  rw [if_pos h4] at h
  simp only [Prod.mk.injEq, and_true] at h
  obtain ⟨rfl, rfl, rfl, rfl⟩ := h
  generalize hn : numL (s.take 4) = n at *
  have l4 : (s.take 4).length = 4 := by simp; omega
  have l8 : ((s.take 12).drop 4).length = 8 := by simp; omega
  have l20 : ((s.take 20).drop 12).length = 8 := by simp; omega
  have lt : ((s.take (20 + n)).drop 20).length = n := by simp; omega
  have lc : ((s.take (24 + n)).drop (20 + n)).length = 4 := by simp; omega
  have eb : bodyL (numL ((s.take 12).drop 4)) (numL ((s.take 20).drop 12)) ((s.take (20 + n)).drop 20) = s.take (20 + n) := by
    unfold bodyL
    rw [lt, ← hn, fixL_numL _ 4 l4, fixL_numL _ 8 l8, fixL_numL _ 8 l20, hn, cut3 _ _ _ (by omega), cut3 _ _ _ (by omega), cut3 _ _ _ (by omega)]
  refine ⟨?_, ?_, ?_, by omega⟩
  · unfold putL
    rw [eb, h4, fixL_numL _ 4 lc, cut3 _ _ _ (by omega), List.take_append_drop]
  · exact numL_lt64 (by omega)
  · exact numL_lt64 (by omega)

theorem first_none {s : List UInt8} (h : (firstL s).2.2.2.2 ≠ 0) : (firstL s).1 = 0 ∧ (firstL s).2.1 = 0 ∧ (firstL s).2.2.1 = [] ∧ (firstL s).2.2.2.1 = [] := by
  revert h
  unfold firstL
  split
  · simp
  split
  · simp
  dsimp only
  split
  · simp
  split
  · simp
  split
  · simp
  · simp

end Go.Proofs.YtoafebndlldclaaDoor.Fr

namespace Go.Proofs.YtoafebndlldclaaDoor.Fr
open Num Crc

/-- a frame with where it ends -/
abbrev F4 := Nat × Nat × Nat × List UInt8
def nextL (s : List UInt8) (a : Nat) : F4 := (a + (24 + (firstL s).2.2.1.length), (firstL s).1, (firstL s).2.1, (firstL s).2.2.1)
def framesL : Nat → List UInt8 → Nat → List F4
  | 0, _, _ => []
  | k + 1, s, a => if (firstL s).2.2.2.2 = 0 then nextL s a :: framesL k (firstL s).2.2.2.1 (a + (24 + (firstL s).2.2.1.length)) else []

theorem first_rest {s : List UInt8} (h : (firstL s).2.2.2.2 = 0) : (firstL s).2.2.2.1 = s.drop (24 + (firstL s).2.2.1.length) ∧ 24 + (firstL s).2.2.1.length ≤ s.length ∧ (firstL s).2.2.1.length ≤ 8192 := by
  rcases hf : firstL s with ⟨q, e, t, r, x⟩
  rw [hf] at h
  dsimp only at h ⊢
  subst h
  obtain ⟨hp, _, _, ht⟩ := put_first hf
  have hl := congrArg List.length hp
  rw [List.length_append, putL_length] at hl
  refine ⟨?_, by omega, ht⟩
  rw [← hp, List.drop_append_of_le_length (by rw [putL_length]; omega), List.drop_eq_nil_of_le (by rw [putL_length]; omega), List.nil_append]

theorem frames_fuel : ∀ (k : Nat) (s : List UInt8) (a : Nat), s.length ≤ k → framesL k s a = framesL s.length s a := by
  intro k
  induction k using Nat.strongRecOn with
  | _ k ih =>
    intro s a h
    cases k with
    | zero => have : s.length = 0 := by omega
              rw [this]
    | succ k =>
      cases hs : s.length with
      | zero =>
        have : (firstL s).2.2.2.2 ≠ 0 := by rw [firstL_empty hs]; simp
        simp only [framesL]; rw [if_neg this]
      | succ m =>
        simp only [framesL]
        by_cases h0 : (firstL s).2.2.2.2 = 0
        · rw [if_pos h0, if_pos h0]
          obtain ⟨hr, hl, _⟩ := first_rest h0
          have hlr : (firstL s).2.2.2.1.length + 24 ≤ s.length := by rw [hr, List.length_drop]; omega
          rw [ih k (by omega) _ _ (by omega), ih m (by omega) _ _ (by omega)]
        · rw [if_neg h0, if_neg h0]

def G (s : List UInt8) (a : Nat) : List F4 := framesL s.length s a
theorem G_ok {s : List UInt8} {a : Nat} (h : (firstL s).2.2.2.2 = 0) : G s a = nextL s a :: G (s.drop (24 + (firstL s).2.2.1.length)) (a + (24 + (firstL s).2.2.1.length)) := by
  obtain ⟨hr, hl, _⟩ := first_rest h
  unfold G
  cases hs : s.length with
  | zero => omega
  | succ m =>
    simp only [framesL]
    rw [if_pos h, hr, frames_fuel m _ _ (by rw [List.length_drop]; omega)]
theorem G_no {s : List UInt8} {a : Nat} (h : (firstL s).2.2.2.2 ≠ 0) : G s a = [] := by
  unfold G
  cases s.length with
  | zero => rfl
  | succ m => simp only [framesL]; rw [if_neg h]

theorem G_len : ∀ (k : Nat) (s : List UInt8) (a : Nat), s.length ≤ k → (G s a).length ≤ s.length := by
  intro k
  induction k using Nat.strongRecOn with
  | _ k ih =>
    intro s a hk
    by_cases h : (firstL s).2.2.2.2 = 0
    · obtain ⟨hr, hl, _⟩ := first_rest h
      rw [G_ok h, List.length_cons]
      have := ih (k - 1) (by omega) (s.drop (24 + (firstL s).2.2.1.length)) (a + (24 + (firstL s).2.2.1.length)) (by rw [List.length_drop]; omega)
      rw [List.length_drop] at this
      omega
    · rw [G_no h]; simp

/-- does the frame come next? -/
def good (ep i : Nat) (x : F4) : Bool := x.2.2.1 == ep && x.2.1 == i + 1
/-- what All tells, the frames told already being i, their end n -/
def allL (ep : Nat) : Nat → Nat → List F4 → List F4 × Nat
  | _, n, [] => ([], n)
  | i, n, x :: l => if good ep i x then (x :: (allL ep (i + 1) x.1 l).1, (allL ep (i + 1) x.1 l).2) else ([], n)
def goods (ep : Nat) : Nat → List F4 → Prop
  | _, [] => True
  | i, x :: l => good ep i x = true ∧ goods ep (i + 1) l
def lastEnd (n : Nat) : List F4 → Nat
  | [] => n
  | x :: l => lastEnd x.1 l

theorem allL_goods (ep : Nat) : ∀ (pre : List F4) (i n : Nat) (rest : List F4), goods ep i pre →
    allL ep i n (pre ++ rest) = (pre ++ (allL ep (i + pre.length) (lastEnd n pre) rest).1, (allL ep (i + pre.length) (lastEnd n pre) rest).2) := by
  intro pre
  induction pre with
  | nil => intro i n rest _; rfl
  | cons x l ih =>
    intro i n rest h
    obtain ⟨h1, h2⟩ := h
    simp only [List.cons_append, allL, h1, if_true, lastEnd, List.length_cons]
    rw [ih (i + 1) x.1 rest h2, show i + 1 + l.length = i + (l.length + 1) from by omega]

theorem goods_snoc (ep : Nat) : ∀ (pre : List F4) (i : Nat) (x : F4), goods ep i pre → good ep (i + pre.length) x = true → goods ep i (pre ++ [x]) := by
  intro pre
  induction pre with
  | nil => intro i x _ h; exact ⟨h, trivial⟩
  | cons y l ih =>
    intro i x h hx
    exact ⟨h.1, ih (i + 1) x h.2 (by rw [show i + 1 + l.length = i + (y :: l).length from by simp; omega]; exact hx)⟩
theorem lastEnd_snoc : ∀ (pre : List F4) (n : Nat) (x : F4), lastEnd n (pre ++ [x]) = x.1 := by
  intro pre
  induction pre with
  | nil => intro n x; rfl
  | cons y l ih => intro n x; exact ih _ _

end Go.Proofs.YtoafebndlldclaaDoor.Fr

namespace Go.Proofs.YtoafebndlldclaaDoor.Wl
open Dk

/-- how many bytes of sector k of the area are kept, of en in all -/
def keepN (en k : Nat) : Nat := min (en - k * 64) 64
def clean0 (en k : Nat) (s : Bs) : Bool := (s.drop (keepN en k)).all (· == 0)
/-- the rest of the area, from its sector k on; 'wr': something was written -/
def cleanGo (en fr : Nat) : Nat → Nat → DS → Bool → DS × Int
  | 0, _, D, wr => if wr then sync D else (D, 0)
  | m + 1, k, D, wr =>
    if (read D (fr + k : Nat)).2 ≠ 0 then (if wr then sync D else (D, 0))
    else if clean0 en k (read D (fr + k : Nat)).1 then cleanGo en fr m (k + 1) D wr
    else if (write D (fr + k : Nat) ((read D (fr + k : Nat)).1.take (keepN en k))).2 ≠ 0 then write D (fr + k : Nat) ((read D (fr + k : Nat)).1.take (keepN en k))
    else cleanGo en fr m (k + 1) (write D (fr + k : Nat) ((read D (fr + k : Nat)).1.take (keepN en k))).1 true
def clean (D : DS) (fr to_ en : Nat) : DS × Int := cleanGo en fr (to_ - fr) 0 D false

theorem keepN_int (en k : Nat) : (if (0 : Int) < (if (en : Int) - (k : Int) * 64 < 64 then (en : Int) - (k : Int) * 64 else 64) then (if (en : Int) - (k : Int) * 64 < 64 then (en : Int) - (k : Int) * 64 else 64) else 0) = (keepN en k : Nat) := by
  unfold keepN
  split <;> split <;> omega
theorem keepN_le (en k : Nat) : keepN en k ≤ 64 := by unfold keepN; omega
theorem clean0_iff (en k : Nat) (s : Bs) : clean0 en k s = true ↔ ∀ x ∈ s.drop (keepN en k), x = 0 := by
  unfold clean0
  simp

theorem burn_len {D : DS} {f : DS → DS} (hf : ∀ D : DS, (f D).olds.length = D.olds.length) : (burn D f).1.olds.length = D.olds.length := by
  unfold burn
  split
  · rfl
  · exact hf _
theorem write_len (D : DS) (i : Int) (s : Bs) : (write D i s).1.olds.length = D.olds.length := by
  unfold write
  split
  · rfl
  · split
    · rfl
    · exact burn_len fun _ => rfl
end Go.Proofs.YtoafebndlldclaaDoor.Wl

namespace Go.Proofs.YtoafebndlldclaaDoor.Wl
open Dk

/-! ### the bytes of some sectors -/
def bytesOf (D : DS) : Nat → Nat → Bs
  | _, 0 => []
  | i, n + 1 => sect D i ++ bytesOf D (i + 1) n

theorem bytesOf_length {D : DS} (h : D.Ok) : ∀ (n i : Nat), i + n ≤ D.olds.length → (bytesOf D i n).length = 64 * n := by
  intro n
  induction n with
  | zero => intro i _; rfl
  | succ n ih =>
    intro i hi
    simp only [bytesOf, List.length_append]
    rw [sect_length h (by omega), ih (i + 1) (by omega)]
    omega
theorem bytesOf_snoc (D : DS) : ∀ (n i : Nat), bytesOf D i (n + 1) = bytesOf D i n ++ sect D (i + n) := by
  intro n
  induction n with
  | zero => intro i; simp [bytesOf]
  | succ n ih =>
    intro i
    rw [bytesOf, ih (i + 1), bytesOf, List.append_assoc, show i + 1 + n = i + (n + 1) from by omega]
theorem bytesOf_add (D : DS) (m : Nat) : ∀ (n i : Nat), bytesOf D i (n + m) = bytesOf D i n ++ bytesOf D (i + n) m := by
  intro n
  induction n with
  | zero => intro i; simp [bytesOf]
  | succ n ih =>
    intro i
    rw [show n + 1 + m = (n + m) + 1 from by omega, bytesOf, ih (i + 1), bytesOf, List.append_assoc, show i + 1 + n = i + (n + 1) from by omega]
theorem bytesOf_congr {D D' : DS} : ∀ (n i : Nat), (∀ k, k < n → sect D' (i + k) = sect D (i + k)) → bytesOf D' i n = bytesOf D i n := by
  intro n
  induction n with
  | zero => intro i _; rfl
  | succ n ih =>
    intro i h
    simp only [bytesOf]
    rw [show sect D' i = sect D i from h 0 (by omega), ih (i + 1) (fun k hk => by have := h (k + 1) (by omega); rwa [show i + (k + 1) = i + 1 + k from by omega] at this)]

theorem keepN_succ (en k : Nat) : keepN en (k + 1) = keepN (en - 64) k := by unfold keepN; omega
theorem keepN_zero (en : Nat) : keepN en 0 = min en 64 := by unfold keepN; omega

theorem take_sect (en : Nat) (a r : Bs) (ha : a.length = 64) : (a ++ r).take en = a.take (keepN en 0) ++ r.take (en - 64) := by
  rw [List.take_append, ha, keepN_zero]
  congr 1
  by_cases h : en ≤ 64
  · rw [Nat.min_eq_left h]
  · rw [Nat.min_eq_right (by omega), List.take_of_length_le (by omega), List.take_of_length_le (by omega)]

/-- bytes are alike up to 'en' as the sectors are -/
theorem take_bytes {D D' : DS} (h : D.Ok) (h' : D'.Ok) (hl : D'.olds.length = D.olds.length) : ∀ (n i en : Nat), i + n ≤ D.olds.length →
    (∀ k, k < n → (sect D' (i + k)).take (keepN en k) = (sect D (i + k)).take (keepN en k)) → (bytesOf D' i n).take en = (bytesOf D i n).take en := by
  intro n
  induction n with
  | zero => intro i en _ _; rfl
  | succ n ih =>
    intro i en hi hk
    simp only [bytesOf]
    rw [take_sect en _ _ (sect_length h' (by omega)), take_sect en _ _ (sect_length h (by omega))]
    rw [show (sect D' i).take (keepN en 0) = (sect D i).take (keepN en 0) from hk 0 (by omega)]
    rw [ih (i + 1) (en - 64) (by omega) (fun k hk' => by have := hk (k + 1) (by omega); rwa [keepN_succ, show i + (k + 1) = i + 1 + k from by omega] at this)]

theorem zeros_add (a b : Nat) : zeros a ++ zeros b = zeros (a + b) := by simp [zeros]
/-- what was made clean -/
theorem clean_bytes {D D' : DS} (h : D.Ok) : ∀ (n i en : Nat), i + n ≤ D.olds.length →
    (∀ k, k < n → sect D' (i + k) = (sect D (i + k)).take (keepN en k) ++ zeros (64 - keepN en k)) → bytesOf D' i n = (bytesOf D i n).take en ++ zeros (64 * n - en) := by
  intro n
  induction n with
  | zero => intro i en _ _; simp [bytesOf, zeros]
  | succ n ih =>
    intro i en hi hk
    simp only [bytesOf]
    rw [take_sect en _ _ (sect_length h (by omega)), ih (i + 1) (en - 64) (by omega) (fun k hk' => by have := hk (k + 1) (by omega); rwa [keepN_succ, show i + (k + 1) = i + 1 + k from by omega] at this)]
    have h0 := hk 0 (by omega)
    rw [Nat.add_zero] at h0
    rw [h0, List.append_assoc, List.append_assoc]
    congr 1
    rw [← List.append_assoc]
    by_cases he : en ≤ 64
    · rw [show en - 64 = 0 from by omega, List.take_zero, List.append_nil, List.nil_append, zeros_add]
      congr 1
      rw [keepN_zero]; omega
    · rw [keepN_zero, Nat.min_eq_right (by omega)]
      simp only [Nat.sub_self]
      rw [show (zeros 0 : Bs) = [] from rfl, List.nil_append]
      congr 2
      omega

/-! ### synced, near -/
def Synced (D : DS) : Prop := ∀ y ∈ D.news, y = none
theorem Synced.getD {D : DS} (h : Synced D) (i : Nat) : D.news.getD i none = none := by
  rw [List.getD_eq_getElem?_getD]
  cases hx : D.news[i]? with
  | none => rfl
  | some y => exact h y (List.mem_of_getElem? hx)
theorem Synced.sect {D : DS} (h : Synced D) (i : Nat) : sect D i = D.olds.getD i [] := by unfold Dk.sect; rw [h.getD]; rfl
theorem synced_new (n : Nat) : Synced (new n) := by intro y hy; simp [new] at hy; exact hy.2
theorem Synced.dirtyFrom : ∀ {l : List (Option Bs)} (k : Nat), (∀ y ∈ l, y = none) → dirtyFrom k l = [] := by
  intro l
  induction l with
  | nil => intro k _; rfl
  | cons x l ih =>
    intro k h
    have := h x (by simp)
    subst this
    exact ih (k + 1) (fun y hy => h y (by simp [hy]))
theorem Synced.dirty {D : DS} (h : Synced D) : dirty D = [] := Synced.dirtyFrom 0 h
theorem synced_map (l : List (Option Bs)) : ∀ y ∈ l.map (fun _ => (none : Option Bs)), y = none := by intro y hy; simp at hy; exact hy.2.symm

/-- up, with all synced -/
structure Calm (D : DS) : Prop where
  ok : D.Ok
  up : D.off = false
  syn : Synced D

/-- what was written since 'D0' keeps, in each sector of an area, its first bytes -/
structure Near (fr to_ en : Nat) (D0 D : DS) : Prop where
  ok : D.Ok
  olds : D.olds = D0.olds
  news : ∀ (i : Nat) (x : Bs), D.news[i]? = some (some x) → fr ≤ i ∧ i < to_ ∧ x.take (keepN en (i - fr)) = (D0.olds.getD i []).take (keepN en (i - fr))

theorem Calm.near {D : DS} (h : Calm D) (fr to_ en : Nat) : Near fr to_ en D D := ⟨h.ok, rfl, fun i x hx => by
  have := h.syn _ (List.mem_of_getElem? hx); cases this⟩
theorem Near.sect {fr to_ en : Nat} {D0 D : DS} (h : Near fr to_ en D0 D) (i : Nat) : (Dk.sect D i).take (keepN en (i - fr)) = (D0.olds.getD i []).take (keepN en (i - fr)) := by
  unfold Dk.sect
  rw [List.getD_eq_getElem?_getD (l := D.news)]
  cases hx : D.news[i]? with
  | none => simp only [Option.getD_none, laid]; rw [h.olds]
  | some y =>
    cases y with
    | none => simp only [Option.getD_some, laid, Option.getD_none]; rw [h.olds]
    | some x => simp only [Option.getD_some, laid]; exact (h.news i x hx).2.2
theorem Near.far {fr to_ en : Nat} {D0 D : DS} (h : Near fr to_ en D0 D) {i : Nat} (hi : i < fr ∨ to_ ≤ i) : Dk.sect D i = D0.olds.getD i [] := by
  unfold Dk.sect
  rw [List.getD_eq_getElem?_getD (l := D.news)]
  cases hx : D.news[i]? with
  | none => simp only [Option.getD_none, laid]; rw [h.olds]
  | some y =>
    cases y with
    | none => simp only [Option.getD_some, laid, Option.getD_none]; rw [h.olds]
    | some x => have := h.news i x hx; omega
theorem Near.of {fr to_ en : Nat} {D0 D D' : DS} (h : Near fr to_ en D0 D) (ho : D'.olds = D.olds) (hn : D'.news = D.news) (hf : D'.fuse ≤ 9223372036854775807) : Near fr to_ en D0 D' :=
  ⟨⟨by rw [hn, ho]; exact h.ok.len, by rw [ho]; exact h.ok.lo, by rw [ho]; exact h.ok.hi, by rw [ho]; exact h.ok.old, by rw [hn]; exact h.ok.new, hf⟩, ho.trans h.olds, by rw [hn]; exact h.news⟩
theorem pad_take (s : Bs) {k : Nat} (hk : k ≤ s.length) : (pad s).take k = s.take k := by unfold pad; rw [List.take_append_of_le_length hk]
theorem Near.put {fr to_ en : Nat} {D0 D : DS} (h : Near fr to_ en D0 D) {i : Nat} (hi : fr ≤ i) (hi2 : i < to_) {x : Bs} (hx : x.length = 64) (hk : x.take (keepN en (i - fr)) = (D0.olds.getD i []).take (keepN en (i - fr))) : Near fr to_ en D0 (put i x D) := by
  refine ⟨h.ok.put i hx, h.olds, ?_⟩
  intro j y hy
  simp only [Dk.put, List.getElem?_set] at hy
  split at hy
  · rename_i e
    subst e
    split at hy
    · cases hy; exact ⟨hi, hi2, hk⟩
    · cases hy
  · exact h.news j y hy
/-- a sector of the area is written -/
theorem Near.write {fr to_ en : Nat} {D0 D : DS} (h : Near fr to_ en D0 D) {i : Nat} (hi : fr ≤ i) (hi2 : i < to_) {s : Bs} (hs : s.length ≤ 64) (hks : keepN en (i - fr) ≤ s.length) (hk : s.take (keepN en (i - fr)) = (D0.olds.getD i []).take (keepN en (i - fr))) :
    Near fr to_ en D0 (write D (i : Nat) s).1 := by
  unfold Dk.write
  split
  · exact h
  · split
    · exact h
    · unfold burn
      split
      · exact h.of rfl rfl (by show (0 : Nat) ≤ _; omega)
      · rw [Int.toNat_natCast]
        exact (h.of (D' := { D with fuse := D.fuse - 1 }) rfl rfl (by have := h.ok.fuse; show D.fuse - 1 ≤ _; omega)).put hi hi2 (pad_length hs) (by rw [pad_take _ hks]; exact hk)

/-- a write in its place, with power on: it is done, or the fuse burns -/
theorem write_split {D : DS} (hup : D.off = false) {i : Nat} (hi : i < D.olds.length) {s : Bs} (hs : s.length ≤ 64) :
    (D.fuse = 1 ∧ Dk.write D (i : Nat) s = ({ D with fuse := 0, off := true }, 180)) ∨ (D.fuse ≠ 1 ∧ Dk.write D (i : Nat) s = (put i (pad s) { D with fuse := D.fuse - 1 }, 0)) := by
  have hw : within D ((i : Nat) : Int) = 0 := within_some hup (by omega) (by omega)
  unfold Dk.write
  rw [if_neg (by rw [hw]; simp), if_neg (by omega)]
  unfold burn
  by_cases h : D.fuse = 1
  · rw [if_pos h]; exact .inl ⟨h, rfl⟩
  · rw [if_neg h, Int.toNat_natCast]; exact .inr ⟨h, rfl⟩
theorem sync_split {D : DS} (hup : D.off = false) : (D.fuse = 1 ∧ sync D = ({ D with fuse := 0, off := true }, 180)) ∨ (D.fuse ≠ 1 ∧ sync D = (settle { D with fuse := D.fuse - 1 }, 0)) := by
  unfold sync
  rw [if_neg (by simp [hup])]
  unfold burn
  by_cases h : D.fuse = 1
  · rw [if_pos h]; exact .inl ⟨h, rfl⟩
  · rw [if_neg h]; exact .inr ⟨h, rfl⟩

theorem sect_put {D : DS} {i : Nat} {x : Bs} (hi : i < D.news.length) (j : Nat) : sect (put i x D) j = if j = i then x else sect D j := by
  unfold sect put
  simp only [List.getD_eq_getElem?_getD, List.getElem?_set]
  by_cases h : i = j
  · subst h; rw [if_pos rfl, if_pos hi, if_pos rfl]; rfl
  · rw [if_neg h, if_neg (by omega)]
theorem sect_fuse (D : DS) (f : Nat) (o : Bool) (j : Nat) : sect { D with fuse := f, off := o } j = sect D j := rfl
theorem sect_settle {D : DS} (h : D.Ok) (j : Nat) (hj : j < D.olds.length) : sect (settle D) j = sect D j := by
  unfold sect settle
  simp only [List.getD_eq_getElem?_getD]
  rw [List.getElem?_map, List.getElem?_zipWith, List.getElem?_eq_getElem hj, List.getElem?_eq_getElem (by rw [h.len]; exact hj)]
  rfl
theorem settle_calm {D : DS} (h : D.Ok) (hup : D.off = false) : Calm (settle D) := ⟨h.settle, hup, synced_map D.news⟩
theorem settle_len {D : DS} (h : D.Ok) : (settle D).olds.length = D.olds.length := by simp [settle, h.len]
theorem sync_len {D : DS} (h : D.Ok) : (sync D).1.olds.length = D.olds.length := by
  unfold sync
  split
  · rfl
  · unfold burn
    split
    · rfl
    · exact settle_len (D := { D with fuse := D.fuse - 1 }) ⟨h.len, h.lo, h.hi, h.old, h.new, by have := h.fuse; show D.fuse - 1 ≤ _; omega⟩

/-! ### the power is on again -/
theorem onL_other (news : List (Option Bs)) : ∀ (l : List Nat) (fs : List Int) (o : List Bs) (j : Nat), j ∉ l → (onL news l fs o).getD j [] = o.getD j [] := by
  intro l
  induction l with
  | nil => intro fs o j _; rfl
  | cons i l ih =>
    intro fs o j hj
    simp only [List.mem_cons, not_or] at hj
    simp only [onL]
    rw [ih _ _ _ hj.2, List.getD_eq_getElem?_getD, List.getElem?_set, if_neg (by omega), List.getD_eq_getElem?_getD]
theorem onL_some (news : List (Option Bs)) : ∀ (l : List Nat) (fs : List Int) (o : List Bs) (j : Nat), l.Pairwise (· < ·) → j < o.length → (onL news l fs o).getD j [] = o.getD j [] ∨ ∃ k, (onL news l fs o).getD j [] = torn (o.getD j []) ((news.getD j none).getD []) k := by
  intro l
  induction l with
  | nil => intro fs o j _ _; exact .inl rfl
  | cons i l ih =>
    intro fs o j hp hj
    rw [List.pairwise_cons] at hp
    simp only [onL]
    by_cases h : j = i
    · subst h
      right
      refine ⟨fs.headD 0, ?_⟩
      rw [onL_other _ _ _ _ _ (fun hm => by have := hp.1 j hm; omega)]
      rw [List.getD_eq_getElem?_getD, List.getElem?_set, if_pos rfl, if_pos hj]
      rfl
    · have := ih fs.tail (o.set i (torn (o.getD i []) ((news.getD i none).getD []) (fs.headD 0))) j hp.2 (by simpa using hj)
      rw [show (o.set i (torn (o.getD i []) ((news.getD i none).getD []) (fs.headD 0))).getD j [] = o.getD j [] from by rw [List.getD_eq_getElem?_getD, List.getElem?_set, if_neg (by omega), List.getD_eq_getElem?_getD]] at this
      exact this
theorem onL_nil (news : List (Option Bs)) : ∀ (l : List Nat) (o : List Bs), (∀ i ∈ l, i < o.length) → onL news l [] o = o := by
  intro l
  induction l with
  | nil => intro o _; rfl
  | cons i l ih =>
    intro o h
    simp only [onL, List.tail_nil, List.headD_nil]
    have hi := h i (by simp)
    rw [show torn (o.getD i []) ((news.getD i none).getD []) 0 = o.getD i [] from by simp [torn, much]]
    rw [show o.set i (o.getD i []) = o from by
      apply List.ext_getElem?
      intro j
      rw [List.getElem?_set]
      split
      · rename_i e; subst e; first | (rw [if_pos hi, List.getD_eq_getElem?_getD, List.getElem?_eq_getElem hi]; rfl) | (rw [List.getD_eq_getElem?_getD, List.getElem?_eq_getElem hi]; rfl)
      · rfl]
    exact ih o (fun j hj => h j (by simp [hj]))
theorem torn_take (o x : Bs) (k : Int) (n : Nat) (h : x.take n = o.take n) (hx : x.length = 64) : (torn o x k).take n = o.take n := by
  unfold torn
  have hm := much_le k
  by_cases hn : n ≤ much k
  · rw [List.take_append_of_le_length (by rw [List.length_take]; omega), List.take_take, Nat.min_eq_left hn, h]
  · rw [List.take_append, List.take_take, Nat.min_eq_right (by omega), List.length_take, hx, Nat.min_eq_left hm]
    have h2 : x.take (much k) = o.take (much k) := by
      have := congrArg (List.take (much k)) h
      rwa [List.take_take, List.take_take, Nat.min_eq_left (by omega)] at this
    rw [h2, List.take_drop, show much k + (n - much k) = n from by omega]
    have := List.take_append_drop (much k) (o.take n)
    rw [List.take_take, Nat.min_eq_left (by omega)] at this
    exact this

/-- with power on again: a calm disk, whose sectors begin as they did -/
theorem Near.on {fr to_ en : Nat} {D0 D : DS} (h : Near fr to_ en D0 D) (hoff : D.off = true) (fates : List Int) :
    (Dk.on D fates).2 = 0 ∧ Calm (Dk.on D fates).1 ∧ (Dk.on D fates).1.fuse = 0 ∧ (Dk.on D fates).1.olds.length = D0.olds.length ∧ (∀ i, i < D0.olds.length → (Dk.sect (Dk.on D fates).1 i).take (keepN en (i - fr)) = (D0.olds.getD i []).take (keepN en (i - fr))) ∧
      (∀ i, i < D0.olds.length → i < fr ∨ to_ ≤ i → Dk.sect (Dk.on D fates).1 i = D0.olds.getD i []) ∧ (fates = [] → (Dk.on D fates).1.olds = D0.olds) := by
  have hok := h.ok.on fates
  have hsyn : Synced (Dk.on D fates).1 := by unfold Dk.on; rw [if_pos hoff]; exact synced_map D.news
  have hol : (Dk.on D fates).1.olds = onL D.news (dirty D) fates D.olds := by unfold Dk.on; rw [if_pos hoff]
  have hsort : (dirty D).Pairwise (· < ·) := dirtyFrom_sorted
  refine ⟨by unfold Dk.on; rw [if_pos hoff], ⟨hok, by unfold Dk.on; rw [if_pos hoff], hsyn⟩, by unfold Dk.on; rw [if_pos hoff], by rw [hol, onL_length, h.olds], ?_, ?_, ?_⟩
  · intro i hi
    rw [hsyn.sect, hol]
    by_cases hm : i ∈ dirty D
    · obtain ⟨x, hx⟩ := dirty_mem.1 hm
      have hx64 := h.ok.new x (List.mem_of_getElem? hx)
      have hk := (h.news i x hx).2.2
      rcases onL_some D.news (dirty D) fates D.olds i hsort (by rw [h.olds]; exact hi) with e | ⟨k, e⟩
      · rw [e, h.olds]
      · rw [e, List.getD_eq_getElem?_getD (l := D.news), hx]
        simp only [Option.getD_some]
        rw [torn_take _ _ _ _ (by rw [hk, h.olds]) hx64, h.olds]
    · rw [onL_other _ _ _ _ _ hm, h.olds]
  · intro i hi hfar
    rw [hsyn.sect, hol]
    by_cases hm : i ∈ dirty D
    · obtain ⟨x, hx⟩ := dirty_mem.1 hm
      have := h.news i x hx
      omega
    · rw [onL_other _ _ _ _ _ hm, h.olds]
  · intro hf
    subst hf
    rw [hol, onL_nil, h.olds]
    intro i hi
    obtain ⟨x, hx⟩ := dirty_mem.1 hi
    have := (List.getElem?_eq_some_iff.1 hx).1
    rw [h.ok.len] at this
    exact this
end Go.Proofs.YtoafebndlldclaaDoor.Wl

namespace Go.Proofs.YtoafebndlldclaaDoor.Fr
open Num Crc

abbrev Byt := List UInt8
/-- records of an epoch, behind i others -/
def enc (ep : Nat) : Nat → List Byt → Byt
  | _, [] => []
  | i, t :: l => putL (i + 1) ep t ++ enc ep (i + 1) l
def szs : List Byt → Nat
  | [] => 0
  | t :: l => (24 + t.length) + szs l
theorem enc_length (ep : Nat) : ∀ (l : List Byt) (i : Nat), (enc ep i l).length = szs l := by
  intro l
  induction l with
  | nil => intro i; rfl
  | cons t l ih => intro i; simp only [enc, szs, List.length_append, putL_length, ih]
theorem enc_append (ep : Nat) : ∀ (l m : List Byt) (i : Nat), enc ep i (l ++ m) = enc ep i l ++ enc ep (i + l.length) m := by
  intro l
  induction l with
  | nil => intro m i; rfl
  | cons t l ih =>
    intro m i
    simp only [List.cons_append, enc, ih, List.append_assoc, List.length_cons]
    rw [show i + 1 + l.length = i + (l.length + 1) from by omega]
theorem szs_append : ∀ (l m : List Byt), szs (l ++ m) = szs l + szs m := by
  intro l
  induction l with
  | nil => intro m; simp [szs]
  | cons t l ih => intro m; simp only [List.cons_append, szs, ih]; omega
theorem szs_len : ∀ (l : List Byt), 24 * l.length ≤ szs l := by
  intro l
  induction l with
  | nil => simp [szs]
  | cons t l ih => simp only [szs, List.length_cons]; omega

/-- no record of that number and epoch comes next -/
def Stops (ep i : Nat) (s : Byt) : Prop := (firstL s).2.2.2.2 = 0 → good ep i (nextL s 0) = false
theorem Stops.all {ep i : Nat} {s : Byt} (h : Stops ep i s) (a : Nat) : allL ep i a (G s a) = ([], a) := by
  by_cases h0 : (firstL s).2.2.2.2 = 0
  · rw [G_ok h0]
    have : good ep i (nextL s a) = false := h h0
    simp only [allL, this, Bool.false_eq_true, if_false]
  · rw [G_no h0]; rfl

theorem all_enc {ep : Nat} (hep : ep < 18446744073709551616) : ∀ (l : List Byt) (i a : Nat) (rest : Byt), (∀ t ∈ l, t.length ≤ 8192) → i + l.length < 18446744073709551616 →
    ∃ fs : List F4, allL ep i a (G (enc ep i l ++ rest) a) = (fs ++ (allL ep (i + l.length) (a + szs l) (G rest (a + szs l))).1, (allL ep (i + l.length) (a + szs l) (G rest (a + szs l))).2) ∧ fs.map (fun x => x.2.2.2) = l := by
  intro l
  induction l with
  | nil => intro i a rest _ _; exact ⟨[], rfl, rfl⟩
  | cons t l ih =>
    intro i a rest ht hi
    have hf := first_put (i + 1) ep t (enc ep (i + 1) l ++ rest) (by simp at hi; omega) hep (ht t (by simp))
    have h0 : (firstL (enc ep i (t :: l) ++ rest)).2.2.2.2 = 0 := by simp only [enc, List.append_assoc]; rw [hf]
    have hn : nextL (enc ep i (t :: l) ++ rest) a = (a + (24 + t.length), i + 1, ep, t) := by simp only [nextL, enc, List.append_assoc]; rw [hf]
    have hd : (enc ep i (t :: l) ++ rest).drop (24 + (firstL (enc ep i (t :: l) ++ rest)).2.2.1.length) = enc ep (i + 1) l ++ rest := by
      have hr := (first_rest h0).1
      rw [← hr]
      simp only [enc, List.append_assoc]; rw [hf]
    have hl : (firstL (enc ep i (t :: l) ++ rest)).2.2.1.length = t.length := by simp only [enc, List.append_assoc]; rw [hf]
    obtain ⟨fs, h1, h2⟩ := ih (i + 1) (a + (24 + t.length)) rest (fun x hx => ht x (by simp [hx])) (by simp at hi; omega)
    refine ⟨(a + (24 + t.length), i + 1, ep, t) :: fs, ?_, by simp [h2]⟩
    rw [G_ok h0, hd, hl, hn]
    have hg : good ep i (a + (24 + t.length), i + 1, ep, t) = true := by simp [good]
    simp only [allL, hg, if_true]
    rw [h1]
    simp only [List.length_cons, szs, List.cons_append]
    rw [show i + 1 + l.length = i + (l.length + 1) from by omega, show a + (24 + t.length) + szs l = a + (24 + t.length + szs l) from by omega]

theorem all_split {ep : Nat} : ∀ (k : Nat) (s : Byt) (i a : Nat), s.length ≤ k →
    ∃ (l : List Byt) (rest : Byt), s = enc ep i l ++ rest ∧ (∀ t ∈ l, t.length ≤ 8192) ∧ Stops ep (i + l.length) rest ∧ (allL ep i a (G s a)).1.map (fun x => x.2.2.2) = l ∧ (allL ep i a (G s a)).2 = a + szs l := by
  intro k
  induction k using Nat.strongRecOn with
  | _ k ih =>
    intro s i a hk
    by_cases h0 : (firstL s).2.2.2.2 = 0
    · by_cases hg : good ep i (nextL s a) = true
      · rcases hf : firstL s with ⟨q, e, t, r, x⟩
        have hx : x = 0 := by rw [hf] at h0; exact h0
        subst hx
        obtain ⟨hp, hq, he, ht⟩ := put_first hf
        have hg2 : e = ep ∧ q = i + 1 := by
          simp only [good, nextL, hf, Bool.and_eq_true, beq_iff_eq] at hg
          exact hg
        obtain ⟨rfl, rfl⟩ := hg2
        have hl := congrArg List.length hp
        rw [List.length_append, putL_length] at hl
        obtain ⟨l, rest, h1, h2, h3, h4, h5⟩ := ih (k - 1) (by omega) r (i + 1) (a + (24 + t.length)) (by omega)
        have hd : s.drop (24 + (firstL s).2.2.1.length) = r := by rw [← (first_rest h0).1, hf]
        have hlen : (firstL s).2.2.1.length = t.length := by rw [hf]
        have hn : nextL s a = (a + (24 + t.length), i + 1, e, t) := by simp only [nextL, hf]
        refine ⟨t :: l, rest, ?_, ?_, ?_, ?_, ?_⟩
        · simp only [enc, List.append_assoc]; rw [← h1]; exact hp.symm
        · intro y hy
          rcases List.mem_cons.1 hy with rfl | hy
          · exact ht
          · exact h2 y hy
        · rw [List.length_cons, show i + (l.length + 1) = i + 1 + l.length from by omega]; exact h3
        · rw [G_ok h0]
          simp only [allL, hg, if_true]
          rw [hd, hlen]
          rw [hn] at *
          simp only [List.map_cons]
          rw [h4]
        · rw [G_ok h0]
          simp only [allL, hg, if_true]
          rw [hd, hlen]
          rw [hn] at *
          rw [h5]
          simp only [szs]; omega
      · have hg' : good ep i (nextL s a) = false := by simpa using hg
        have hst : Stops ep i s := fun _ => hg'
        refine ⟨[], s, rfl, by simp, hst, ?_, ?_⟩
        · rw [hst.all]; rfl
        · rw [hst.all]; rfl
    · have hst : Stops ep i s := fun h => absurd h h0
      refine ⟨[], s, rfl, by simp, hst, ?_, ?_⟩
      · rw [hst.all]; rfl
      · rw [hst.all]; rfl

/-- the texts that All tells of some bytes, and where they end -/
def told (ep : Nat) (s : Byt) : List Byt := (allL ep 0 0 (G s 0)).1.map (fun x => x.2.2.2)
def toldEnd (ep : Nat) (s : Byt) : Nat := (allL ep 0 0 (G s 0)).2

theorem told_split (ep : Nat) (s : Byt) : ∃ rest, s = enc ep 0 (told ep s) ++ rest ∧ (∀ t ∈ told ep s, t.length ≤ 8192) ∧ Stops ep (told ep s).length rest ∧ toldEnd ep s = szs (told ep s) := by
  obtain ⟨l, rest, h1, h2, h3, h4, h5⟩ := all_split (ep := ep) s.length s 0 0 (Nat.le_refl _)
  have : told ep s = l := h4
  rw [this]
  exact ⟨rest, h1, h2, by rw [Nat.zero_add] at h3; exact h3, by rw [Nat.zero_add] at h5; exact h5⟩
theorem toldEnd_le (ep : Nat) (s : Byt) : toldEnd ep s ≤ s.length := by
  obtain ⟨rest, h1, _, _, h4⟩ := told_split ep s
  have := congrArg List.length h1
  rw [List.length_append, enc_length] at this
  omega
theorem toldEnd_eq (ep : Nat) (s : Byt) : toldEnd ep s = szs (told ep s) := (told_split ep s).choose_spec.2.2.2
theorem told_small (ep : Nat) (s : Byt) : ∀ t ∈ told ep s, t.length ≤ 8192 := (told_split ep s).choose_spec.2.1
theorem told_take (ep : Nat) (s : Byt) : s.take (szs (told ep s)) = enc ep 0 (told ep s) := by
  obtain ⟨rest, h1, _, _, _⟩ := told_split ep s
  generalize told ep s = l at *
  rw [h1, List.take_append_of_le_length (by rw [enc_length]; omega), List.take_of_length_le (by rw [enc_length]; omega)]

/-- behind records of that epoch others may be told -/
theorem told_more {ep : Nat} (hep : ep < 18446744073709551616) (l : List Byt) (rest : Byt) (hl : ∀ t ∈ l, t.length ≤ 8192) (hn : l.length < 18446744073709551616) : ∃ m, told ep (enc ep 0 l ++ rest) = l ++ m := by
  obtain ⟨fs, h1, h2⟩ := all_enc hep l 0 0 rest hl (by omega)
  unfold told
  rw [h1]
  simp only [List.map_append, h2]
  exact ⟨_, rfl⟩
theorem told_just {ep : Nat} (hep : ep < 18446744073709551616) (l : List Byt) (rest : Byt) (hl : ∀ t ∈ l, t.length ≤ 8192) (hn : l.length < 18446744073709551616) (hs : Stops ep l.length rest) : told ep (enc ep 0 l ++ rest) = l := by
  obtain ⟨fs, h1, h2⟩ := all_enc hep l 0 0 rest hl (by omega)
  unfold told
  rw [h1, Nat.zero_add, hs.all]
  simp [h2]

theorem num_zero : numL (List.replicate 8 0) = 0 := by decide
theorem stops_zeros (ep i m : Nat) : Stops ep i (List.replicate m 0) := by
  intro h0
  rcases hf : firstL (List.replicate m 0) with ⟨q, e, t, r, x⟩
  have hx : x = 0 := by rw [hf] at h0; exact h0
  subst hx
  obtain ⟨hp, hq, he, ht⟩ := put_first hf
  have hall : ∀ y ∈ putL q e t ++ r, y = 0 := by
    intro y hy; rw [hp] at hy; exact (List.mem_replicate.1 hy).2
  have hfix : fixL q 8 = List.replicate 8 0 := by
    rw [List.eq_replicate_iff]
    refine ⟨fixL_length 8 q, fun y hy => hall y ?_⟩
    simp [putL, bodyL, hy]
  have hq0 : q = 0 := by
    have := numL_fixL 8 q
    rw [hfix, num_zero] at this
    rw [Nat.mod_eq_of_lt (by omega)] at this
    omega
  simp only [good, nextL, hf, hq0]
  simp
/-- records of another epoch -/
theorem stops_other {ep ep' : Nat} (h : ep' ≠ ep) (hep : ep' < 18446744073709551616) (j i : Nat) (t : Byt) (l : List Byt) (rest : Byt) (ht : t.length ≤ 8192) (hj : j + 1 < 18446744073709551616) : Stops ep i (enc ep' j (t :: l) ++ rest) := by
  intro _
  have hf := first_put (j + 1) ep' t (enc ep' (j + 1) l ++ rest) hj hep ht
  simp only [good, nextL, enc, List.append_assoc, hf]
  simp [h]
end Go.Proofs.YtoafebndlldclaaDoor.Fr

namespace Go.Proofs.YtoafebndlldclaaDoor.Wl
open Dk Fr

theorem all_zero {s : Bs} (h : ∀ x ∈ s, x = 0) : s = zeros s.length := by unfold zeros; rw [List.eq_replicate_iff]; exact ⟨rfl, h⟩
theorem off_split (D : DS) : D.off = true ∨ D.off = false := by cases D.off <;> simp

/-! ### clean -/
/-- what is behind a way that ended well, and what behind one that did not -/
structure Cleaned (fr to_ en : Nat) (D0 D : DS) : Prop where
  calm : Calm D
  len : D.olds.length = D0.olds.length
  area : ∀ k, fr + k < to_ → sect D (fr + k) = (sect D0 (fr + k)).take (keepN en k) ++ zeros (64 - keepN en k)
  far : ∀ i, i < D0.olds.length → i < fr ∨ to_ ≤ i → sect D i = sect D0 i
  fuse : D0.fuse = 0 → D.fuse = 0
structure Failed (fr to_ en : Nat) (D0 D : DS) : Prop where
  near : Near fr to_ en D0 D
  off : D.off = true
  fuse : D0.fuse ≠ 0

theorem cleanGo_spec {fr to_ en : Nat} {D0 : DS} (h0 : Calm D0) (hto : to_ ≤ D0.olds.length) : ∀ (m k : Nat) (D : DS) (wr : Bool), fr + k + m = to_ → Near fr to_ en D0 D → D.off = false → (wr = false → Synced D) →
    (∀ j, j < k → sect D (fr + j) = (sect D0 (fr + j)).take (keepN en j) ++ zeros (64 - keepN en j)) → (∀ j, k ≤ j → fr + j < to_ → sect D (fr + j) = sect D0 (fr + j)) → (∀ i, i < D0.olds.length → i < fr ∨ to_ ≤ i → sect D i = sect D0 i) → (D0.fuse = 0 → D.fuse = 0) →
    ((cleanGo en fr m k D wr).2 = 0 ∧ Cleaned fr to_ en D0 (cleanGo en fr m k D wr).1) ∨ ((cleanGo en fr m k D wr).2 = 180 ∧ Failed fr to_ en D0 (cleanGo en fr m k D wr).1) := by
  intro m
  induction m with
  | zero =>
    intro k D wr hk hn hup hwr hb ha hf hfu
    have hol : D.olds.length = D0.olds.length := by rw [hn.olds]
    simp only [cleanGo]
    cases wr with
    | false =>
      simp only [Bool.false_eq_true, if_false]
      exact .inl ⟨by trivial, ⟨hn.ok, hup, hwr rfl⟩, hol, fun j hj => hb j (by omega), hf, hfu⟩
    | true =>
      simp only [if_true]
      rcases sync_split hup with ⟨h1, h2⟩ | ⟨h1, h2⟩
      · rw [h2]
        exact .inr ⟨rfl, hn.of rfl rfl (by show (0 : Nat) ≤ _; omega), rfl, fun e => by have := hfu e; omega⟩
      · rw [h2]
        have hok1 : ({ D with fuse := D.fuse - 1 } : DS).Ok := (hn.of (D' := { D with fuse := D.fuse - 1 }) rfl rfl (by have := hn.ok.fuse; show D.fuse - 1 ≤ _; omega)).ok
        refine .inl ⟨rfl, settle_calm hok1 hup, (settle_len hok1).trans hol, fun j hj => ?_, fun i hi hfar => ?_, fun e => ?_⟩
        · rw [sect_settle hok1 _ (by show fr + j < D.olds.length; omega)]; exact hb j (by omega)
        · rw [sect_settle hok1 _ (by show i < D.olds.length; omega)]; exact hf i hi hfar
        · have := hfu e; show D.fuse - 1 = 0; omega
  | succ m ih =>
    intro k D wr hk hn hup hwr hb ha hf hfu
    have hol : D.olds.length = D0.olds.length := by rw [hn.olds]
    have hw : within D ((fr + k : Nat) : Int) = 0 := within_some hup (by omega) (by omega)
    have hrd : read D ((fr + k : Nat) : Int) = (sect D (fr + k), 0) := by unfold Dk.read; rw [if_neg (by rw [hw]; simp), Int.toNat_natCast]
    simp only [cleanGo]
    rw [hrd]
    simp only [ne_eq, not_true_eq_false, if_false]
    have hsk := ha k (Nat.le_refl _) (by omega)
    have h64 : (sect D (fr + k)).length = 64 := sect_length hn.ok (by omega)
    have hkl := keepN_le en k
    by_cases hc : clean0 en k (sect D (fr + k)) = true
    · rw [if_pos hc]
      refine ih (k + 1) D wr (by omega) hn hup hwr ?_ (fun j hj hj2 => ha j (by omega) hj2) hf hfu
      intro j hj
      by_cases e : j = k
      · subst e
        have hz := all_zero ((clean0_iff _ _ _).1 hc)
        rw [List.length_drop, h64] at hz
        rw [← hsk, ← hz, List.take_append_drop]
      · exact hb j (by omega)
    · rw [if_neg hc]
      have hlen : ((sect D (fr + k)).take (keepN en k)).length = keepN en k := by rw [List.length_take]; omega
      have hold : D0.olds.getD (fr + k) [] = sect D (fr + k) := by rw [hsk, h0.syn.sect]
      rcases write_split hup (i := fr + k) (by omega) (s := (sect D (fr + k)).take (keepN en k)) (by omega) with ⟨h1, h2⟩ | ⟨h1, h2⟩
      · rw [h2]
        simp only [show (180 : Int) ≠ 0 from by decide, not_false_eq_true, if_true]
        exact .inr ⟨by trivial, hn.of rfl rfl (by show (0 : Nat) ≤ _; omega), by trivial, fun e => by have := hfu e; omega⟩
      · rw [h2]
        simp only [not_true_eq_false, if_false]
        have hn1 : Near fr to_ en D0 { D with fuse := D.fuse - 1 } := hn.of rfl rfl (by have := hn.ok.fuse; show D.fuse - 1 ≤ _; omega)
        have hi : fr + k < ({ D with fuse := D.fuse - 1 } : DS).news.length := by rw [hn1.ok.len]; show fr + k < D.olds.length; omega
        have hpad : pad ((sect D (fr + k)).take (keepN en k)) = (sect D0 (fr + k)).take (keepN en k) ++ zeros (64 - keepN en k) := by unfold pad; rw [hlen, hsk]
        refine ih (k + 1) _ true (by omega) (hn1.put (by omega) (by omega) (pad_length (by omega)) ?_) hup (fun e => by cases e) ?_ ?_ ?_ ?_
        · rw [show fr + k - fr = k from by omega, hold]
          rw [pad_take _ (by rw [hlen]; exact Nat.le_refl _), List.take_take, Nat.min_self]
        · intro j hj
          rw [sect_put hi]
          by_cases e : j = k
          · subst e; rw [if_pos rfl]; exact hpad
          · rw [if_neg (by omega)]; exact hb j (by omega)
        · intro j hj hj2
          rw [sect_put hi, if_neg (by omega)]; exact ha j (by omega) hj2
        · intro i hi2 hfar
          rw [sect_put hi, if_neg (by omega)]; exact hf i hi2 hfar
        · intro e; have := hfu e; show D.fuse - 1 = 0; omega

theorem clean_spec {fr to_ : Nat} (en : Nat) {D : DS} (h : Calm D) (hft : fr ≤ to_) (hto : to_ ≤ D.olds.length) :
    ((clean D fr to_ en).2 = 0 ∧ Cleaned fr to_ en D (clean D fr to_ en).1) ∨ ((clean D fr to_ en).2 = 180 ∧ Failed fr to_ en D (clean D fr to_ en).1) :=
  cleanGo_spec h hto (to_ - fr) 0 D false (by omega) (h.near _ _ _) h.up (fun _ => h.syn) (fun j hj => by omega) (fun j _ _ => rfl) (fun i _ _ => rfl) (fun e => e)

/-! ### a log -/
structure LS where
  fr : Nat
  to_ : Nat
  ep : Nat
  many : Nat
  en : Nat
  last : Bs
  over : Bool

def openAt (D : DS) (fr to_ ep : Nat) : DS × Option LS × List Bs × Int :=
  if (clean D fr to_ (toldEnd ep (bytesOf D fr (to_ - fr)))).2 ≠ 0 then ((clean D fr to_ (toldEnd ep (bytesOf D fr (to_ - fr)))).1, none, [], 180)
  else ((clean D fr to_ (toldEnd ep (bytesOf D fr (to_ - fr)))).1,
    some ⟨fr, to_, ep, (told ep (bytesOf D fr (to_ - fr))).length, toldEnd ep (bytesOf D fr (to_ - fr)), ((bytesOf D fr (to_ - fr)).take (toldEnd ep (bytesOf D fr (to_ - fr)))).drop (toldEnd ep (bytesOf D fr (to_ - fr)) - toldEnd ep (bytesOf D fr (to_ - fr)) % 64), false⟩,
    told ep (bytesOf D fr (to_ - fr)), 0)
def openL (D : DS) (fr to_ : Int) (ep : Nat) : DS × Option LS × List Bs × Int :=
  if fr < 0 ∨ to_ ≤ fr ∨ (D.olds.length : Int) < to_ then (D, none, [], 1)
  else if D.off = true then (D, none, [], 180)
  else openAt D fr.toNat to_.toNat ep

/-- so many whole sectors of a text are written; did one fail? -/
def fullsGo : Nat → DS → Nat → Bs → DS × Bool
  | 0, D, _, _ => (D, false)
  | n + 1, D, i, s => if (write D (i : Nat) (s.take 64)).2 ≠ 0 then ((write D (i : Nat) (s.take 64)).1, true) else fullsGo n (write D (i : Nat) (s.take 64)).1 (i + 1) (s.drop 64)
/-- the rest is written, and all is synced -/
def restGo (D : DS) (i : Nat) (s : Bs) : DS × Bool :=
  if s = [] then ((sync D).1, decide ((sync D).2 ≠ 0))
  else if (write D (i : Nat) s).2 ≠ 0 then ((write D (i : Nat) s).1, true)
  else ((sync (write D (i : Nat) s).1).1, decide ((sync (write D (i : Nat) s).1).2 ≠ 0))
def putsGo (D : DS) (i : Nat) (s : Bs) : DS × Bool :=
  if (fullsGo (s.length / 64) D i s).2 = true then ((fullsGo (s.length / 64) D i s).1, true)
  else restGo (fullsGo (s.length / 64) D i s).1 (i + s.length / 64) (s.drop (64 * (s.length / 64)))
def LS.room (L : LS) : Int := ((L.to_ : Int) - L.fr) * 64 - L.en
def appendL (D : DS) (L : LS) (texts : List Bs) : DS × LS × Int :=
  if ∃ t ∈ texts, 8192 < t.length then (D, L, 71)
  else if texts = [] then (D, L, 0)
  else if L.room < szs texts then (D, L, 2)
  else if L.over = true then (D, L, 180)
  else if (putsGo D (L.fr + L.en / 64) (L.last ++ enc L.ep L.many texts)).2 = true then ((putsGo D (L.fr + L.en / 64) (L.last ++ enc L.ep L.many texts)).1, { L with over := true }, 180)
  else ((putsGo D (L.fr + L.en / 64) (L.last ++ enc L.ep L.many texts)).1,
    { L with many := L.many + texts.length, en := L.en + szs texts, last := (L.last ++ enc L.ep L.many texts).drop (64 * ((L.last ++ enc L.ep L.many texts).length / 64)) }, 0)

/-- a log that is in order: what it has is on the disk, and behind it 0 -/
structure Good (D : DS) (L : LS) (recs : List Bs) : Prop where
  calm : Calm D
  lt : L.fr < L.to_
  hi : L.to_ ≤ D.olds.length
  over : L.over = false
  many : L.many = recs.length
  en : L.en = szs recs
  ep : L.ep < 18446744073709551616
  small : ∀ t ∈ recs, t.length ≤ 8192
  fit : szs recs ≤ 64 * (L.to_ - L.fr)
  bytes : bytesOf D L.fr (L.to_ - L.fr) = enc L.ep 0 recs ++ zeros (64 * (L.to_ - L.fr) - szs recs)
  last : L.last = (enc L.ep 0 recs).drop (szs recs - szs recs % 64)

theorem recs_few {n : Nat} {recs : List Bs} (h : szs recs ≤ 64 * n) (hn : n ≤ 4096) : recs.length ≤ 10923 := by have := szs_len recs; omega

/-- what else a way leaves alone -/
structure Beside (fr to_ : Nat) (D0 D : DS) : Prop where
  len : D.olds.length = D0.olds.length
  far : ∀ i, i < D0.olds.length → i < fr ∨ to_ ≤ i → sect D i = sect D0 i
  fuse : D0.fuse = 0 → D.fuse = 0
theorem Beside.refl (fr to_ : Nat) (D : DS) : Beside fr to_ D D := ⟨rfl, fun _ _ _ => rfl, fun h => h⟩
theorem Beside.trans {fr to_ : Nat} {A B C : DS} (h : Beside fr to_ A B) (k : Beside fr to_ B C) : Beside fr to_ A C :=
  ⟨k.len.trans h.len, fun i hi hf => (k.far i (by rw [h.len]; exact hi) hf).trans (h.far i hi hf), fun e => k.fuse (h.fuse e)⟩

theorem openAt_spec {D : DS} (h : Calm D) {fr to_ ep : Nat} (hft : fr < to_) (hto : to_ ≤ D.olds.length) (hep : ep < 18446744073709551616) :
    (∃ L, (openAt D fr to_ ep).2 = (some L, told ep (bytesOf D fr (to_ - fr)), 0) ∧ Good (openAt D fr to_ ep).1 L (told ep (bytesOf D fr (to_ - fr))) ∧ L.fr = fr ∧ L.to_ = to_ ∧ L.ep = ep ∧ Beside fr to_ D (openAt D fr to_ ep).1) ∨
    ((openAt D fr to_ ep).2 = (none, [], 180) ∧ Failed fr to_ (szs (told ep (bytesOf D fr (to_ - fr)))) D (openAt D fr to_ ep).1) := by
  obtain ⟨rest, h1, h2, h3, h4⟩ := told_split ep (bytesOf D fr (to_ - fr))
  have h5 := told_take ep (bytesOf D fr (to_ - fr))
  have hlen := bytesOf_length h.ok (to_ - fr) fr (by omega)
  have hle := toldEnd_le ep (bytesOf D fr (to_ - fr))
  unfold openAt
  generalize told ep (bytesOf D fr (to_ - fr)) = l at *
  rw [h4] at hle ⊢
  have hc := clean_spec (fr := fr) (to_ := to_) (szs l) h (by omega) hto
  rcases hc with ⟨e0, hc⟩ | ⟨e0, hc⟩
  · left
    rw [if_neg (by rw [e0]; simp)]
    refine ⟨_, rfl, ?_, rfl, rfl, rfl, hc.len, hc.far, hc.fuse⟩
    have hb := clean_bytes (D' := (clean D fr to_ (szs l)).1) h.ok (to_ - fr) fr (szs l) (by omega) (fun k hk => hc.area k (by omega))
    rw [h5] at hb
    exact ⟨hc.calm, hft, by rw [hc.len]; exact hto, rfl, rfl, rfl, hep, h2, by show szs l ≤ 64 * (to_ - fr); omega, hb, by show _ = _; rw [h5]⟩
  · right
    rw [if_pos (by rw [e0]; simp)]
    exact ⟨rfl, hc⟩

/-! ### appending -/
theorem sect_of_bytes {D : DS} (h : D.Ok) (n fr k : Nat) (hk : k < n) (hi : fr + n ≤ D.olds.length) : sect D (fr + k) = ((bytesOf D fr n).drop (64 * k)).take 64 := by
  have e : n = k + (1 + (n - k - 1)) := by omega
  rw [e, bytesOf_add, bytesOf_add]
  have h1 := bytesOf_length h k fr (by omega)
  have h2 := sect_length h (i := fr + k) (by omega)
  rw [List.drop_append, h1, Nat.sub_self, List.drop_zero, List.drop_eq_nil_of_le (by omega), List.nil_append]
  simp only [bytesOf, List.append_nil]
  rw [List.take_append_of_le_length (by omega), List.take_of_length_le (by omega)]

theorem padded {D : DS} : ∀ (n i : Nat) (s : Bs), s.length ≤ 64 * n → (∀ j, j < n → sect D (i + j) = pad ((s.drop (64 * j)).take 64)) → bytesOf D i n = s ++ zeros (64 * n - s.length) := by
  intro n
  induction n with
  | zero => intro i s hs _; have : s = [] := List.eq_nil_of_length_eq_zero (by omega); subst this; rfl
  | succ n ih =>
    intro i s hs h
    simp only [bytesOf]
    rw [show sect D i = pad ((s.drop (64 * 0)).take 64) from h 0 (by omega)]
    rw [ih (i + 1) (s.drop 64) (by rw [List.length_drop]; omega) (fun j hj => by
      have := h (j + 1) (by omega)
      rw [show i + (j + 1) = i + 1 + j from by omega] at this
      rw [this, List.drop_drop, show 64 + 64 * j = 64 * (j + 1) from by omega])]
    rw [Nat.mul_zero, List.drop_zero, List.length_drop]
    unfold pad
    by_cases hs2 : s.length ≤ 64
    · rw [List.take_of_length_le hs2, List.drop_eq_nil_of_le hs2, List.nil_append, List.append_assoc, zeros_add]
      congr 2
      omega
    · rw [List.length_take, Nat.min_eq_left (by omega), Nat.sub_self]
      rw [show (zeros 0 : Bs) = [] from rfl, List.append_nil, ← List.append_assoc, List.take_append_drop]
      congr 2
      omega

/-- what the writing of some sectors leaves, from sector i on -/
structure Wrote (fr to_ en : Nat) (D0 D D' : DS) (i n : Nat) (s : Bs) : Prop where
  near : Near fr to_ en D0 D'
  up : D'.off = false
  at_ : ∀ j, j < n → sect D' (i + j) = pad ((s.drop (64 * j)).take 64)
  other : ∀ k, (k < i ∨ i + n ≤ k) → sect D' k = sect D k
  fuse : D.fuse = 0 → D'.fuse = 0

theorem Near.len {fr to_ en : Nat} {D0 D : DS} (h : Near fr to_ en D0 D) : D.olds.length = D0.olds.length := by rw [h.olds]

theorem fullsGo_spec {fr to_ en : Nat} {D0 : DS} (hto : to_ ≤ D0.olds.length) : ∀ (n : Nat) (D : DS) (i : Nat) (s : Bs), Near fr to_ en D0 D → D.off = false → fr ≤ i → i + n ≤ to_ → 64 * n ≤ s.length →
    (∀ j, j < n → (s.drop (64 * j)).take (keepN en (i + j - fr)) = (D0.olds.getD (i + j) []).take (keepN en (i + j - fr))) →
    ((fullsGo n D i s).2 = false ∧ Wrote fr to_ en D0 D (fullsGo n D i s).1 i n s) ∨ ((fullsGo n D i s).2 = true ∧ Near fr to_ en D0 (fullsGo n D i s).1 ∧ (fullsGo n D i s).1.off = true ∧ D.fuse ≠ 0) := by
  intro n
  induction n with
  | zero => intro D i s hn hup _ _ _ _; exact .inl ⟨rfl, hn, hup, fun j hj => by omega, fun _ _ => rfl, fun e => e⟩
  | succ n ih =>
    intro D i s hn hup hfi hit hs hk
    have h64 : (s.take 64).length = 64 := by rw [List.length_take]; omega
    have hkl := keepN_le en (i - fr)
    have hk0 : (s.take 64).take (keepN en (i - fr)) = (D0.olds.getD i []).take (keepN en (i - fr)) := by
      have := hk 0 (by omega)
      rw [Nat.mul_zero, List.drop_zero, Nat.add_zero] at this
      rw [List.take_take, Nat.min_eq_left hkl]
      exact this
    simp only [fullsGo]
    rcases write_split hup (i := i) (by rw [hn.len]; omega) (s := s.take 64) (by omega) with ⟨h1, h2⟩ | ⟨h1, h2⟩
    · rw [h2]
      simp only [ne_eq, show (180 : Int) ≠ 0 from by decide, not_false_eq_true, if_true]
      exact .inr ⟨by trivial, hn.of rfl rfl (by show (0 : Nat) ≤ _; omega), by trivial, by omega⟩
    · rw [h2]
      simp only [ne_eq, not_true_eq_false, if_false]
      have hn1 : Near fr to_ en D0 { D with fuse := D.fuse - 1 } := hn.of rfl rfl (by have := hn.ok.fuse; show D.fuse - 1 ≤ _; omega)
      have hi : i < ({ D with fuse := D.fuse - 1 } : DS).news.length := by rw [hn1.ok.len, hn1.len]; omega
      have hn2 : Near fr to_ en D0 (put i (pad (s.take 64)) { D with fuse := D.fuse - 1 }) := hn1.put hfi (by omega) (pad_length (by omega)) (by rw [pad_take _ (by omega)]; exact hk0)
      rcases ih (put i (pad (s.take 64)) { D with fuse := D.fuse - 1 }) (i + 1) (s.drop 64) hn2 hup (by omega) (by omega) (by rw [List.length_drop]; omega) (fun j hj => by
        have := hk (j + 1) (by omega)
        rw [show i + (j + 1) = i + 1 + j from by omega] at this
        rw [List.drop_drop, show 64 + 64 * j = 64 * (j + 1) from by omega]; exact this) with ⟨g1, g2⟩ | ⟨g1, g2, g3, g4⟩
      · refine .inl ⟨g1, g2.near, g2.up, ?_, ?_, ?_⟩
        · intro j hj
          cases j with
          | zero =>
            rw [g2.other (i + 0) (by omega), sect_put hi, if_pos (by omega), Nat.mul_zero, List.drop_zero]
          | succ j =>
            have := g2.at_ j (by omega)
            rw [List.drop_drop, show 64 + 64 * j = 64 * (j + 1) from by omega] at this
            rw [show i + (j + 1) = i + 1 + j from by omega]; exact this
        · intro k hk
          rw [g2.other k (by omega), sect_put hi, if_neg (by omega)]; rfl
        · intro e; exact g2.fuse (by show D.fuse - 1 = 0; omega)
      · refine .inr ⟨g1, g2, g3, ?_⟩
        have : D.fuse - 1 ≠ 0 := g4
        omega

/-- all is written and synced, or the power is gone -/
structure Done (fr to_ : Nat) (D0 D' : DS) (i : Nat) (s : Bs) : Prop where
  calm : Calm D'
  len : D'.olds.length = D0.olds.length
  at_ : ∀ j, 64 * j < s.length → sect D' (i + j) = pad ((s.drop (64 * j)).take 64)
  other : ∀ k, k < D0.olds.length → (k < i ∨ i + (s.length + 63) / 64 ≤ k) → sect D' k = sect D0 k
  fuse : D0.fuse = 0 → D'.fuse = 0

theorem putsGo_spec {fr to_ en : Nat} {D0 : DS} (h0 : Calm D0) (hto : to_ ≤ D0.olds.length) (i : Nat) (s : Bs) (hfi : fr ≤ i) (hit : i + (s.length + 63) / 64 ≤ to_)
    (hk : ∀ j, 64 * j < s.length → keepN en (i + j - fr) ≤ s.length - 64 * j ∧ (s.drop (64 * j)).take (keepN en (i + j - fr)) = (D0.olds.getD (i + j) []).take (keepN en (i + j - fr))) :
    ((putsGo D0 i s).2 = false ∧ Done fr to_ D0 (putsGo D0 i s).1 i s) ∨ ((putsGo D0 i s).2 = true ∧ Failed fr to_ en D0 (putsGo D0 i s).1) := by
  have hf := fullsGo_spec (fr := fr) (to_ := to_) (en := en) hto (s.length / 64) D0 i s (h0.near _ _ _) h0.up hfi (by omega) (by omega) (fun j hj => (hk j (by omega)).2)
  unfold putsGo
  rcases hf with ⟨e1, hw⟩ | ⟨e1, g2, g3, g4⟩
  rotate_left
  · rw [if_pos e1]; exact .inr ⟨rfl, g2, g3, g4⟩
  rw [if_neg (by rw [e1]; simp)]
  generalize (fullsGo (s.length / 64) D0 i s).1 = D1 at *
  have syn : ∀ D2, Near fr to_ en D0 D2 → D2.off = false → (D0.fuse = 0 → D2.fuse = 0) → (∀ j, 64 * j < s.length → sect D2 (i + j) = pad ((s.drop (64 * j)).take 64)) →
      (∀ k, k < D0.olds.length → (k < i ∨ i + (s.length + 63) / 64 ≤ k) → sect D2 k = sect D0 k) →
      (decide ((sync D2).2 ≠ 0) = false ∧ Done fr to_ D0 (sync D2).1 i s) ∨ (decide ((sync D2).2 ≠ 0) = true ∧ Failed fr to_ en D0 (sync D2).1) := by
    intro D2 hn hup hfu hat hot
    rcases sync_split hup with ⟨h1, h2⟩ | ⟨h1, h2⟩
    · rw [h2]
      exact .inr ⟨by simp, hn.of rfl rfl (by show (0 : Nat) ≤ _; omega), rfl, fun e => by have := hfu e; omega⟩
    · rw [h2]
      have hok1 : ({ D2 with fuse := D2.fuse - 1 } : DS).Ok := (hn.of (D' := { D2 with fuse := D2.fuse - 1 }) rfl rfl (by have := hn.ok.fuse; show D2.fuse - 1 ≤ _; omega)).ok
      refine .inl ⟨by simp, settle_calm hok1 hup, (settle_len hok1).trans hn.len, fun j hj => ?_, fun k hk2 hk3 => ?_, fun e => ?_⟩
      · rw [sect_settle hok1 _ (by show i + j < D2.olds.length; rw [hn.len]; omega)]; exact hat j hj
      · rw [sect_settle hok1 _ (by show k < D2.olds.length; rw [hn.len]; omega)]; exact hot k hk2 hk3
      · have := hfu e; show D2.fuse - 1 = 0; omega
  unfold restGo
  have hrl : (s.drop (64 * (s.length / 64))).length = s.length % 64 := by rw [List.length_drop]; omega
  by_cases hr : s.drop (64 * (s.length / 64)) = []
  · rw [if_pos hr]
    have h0l : s.length % 64 = 0 := by rw [hr] at hrl; simpa using hrl.symm
    exact syn D1 hw.near hw.up hw.fuse (fun j hj => hw.at_ j (by omega)) (fun k _ hk2 => hw.other k (by omega))
  · rw [if_neg hr]
    have h0l : s.length % 64 ≠ 0 := by intro e; exact hr (List.eq_nil_of_length_eq_zero (by omega))
    have hkk := hk (s.length / 64) (by omega)
    rcases write_split hw.up (i := i + s.length / 64) (by rw [hw.near.len]; omega) (s := s.drop (64 * (s.length / 64))) (by omega) with ⟨h1, h2⟩ | ⟨h1, h2⟩
    · rw [h2]
      simp only [ne_eq, show (180 : Int) ≠ 0 from by decide, not_false_eq_true, if_true]
      exact .inr ⟨by trivial, hw.near.of rfl rfl (by show (0 : Nat) ≤ _; omega), by trivial, fun e => by have := hw.fuse e; omega⟩
    · rw [h2]
      simp only [ne_eq, not_true_eq_false, if_false]
      have hn1 : Near fr to_ en D0 { D1 with fuse := D1.fuse - 1 } := hw.near.of rfl rfl (by have := hw.near.ok.fuse; show D1.fuse - 1 ≤ _; omega)
      have hi : i + s.length / 64 < ({ D1 with fuse := D1.fuse - 1 } : DS).news.length := by rw [hn1.ok.len, hn1.len]; omega
      refine syn _ (hn1.put (by omega) (by omega) (pad_length (by omega)) ?_) hw.up (fun e => by have := hw.fuse e; show D1.fuse - 1 = 0; omega) ?_ ?_
      · rw [pad_take _ (by omega)]; exact hkk.2
      · intro j hj
        rw [sect_put hi]
        by_cases e : j = s.length / 64
        · subst e
          rw [if_pos rfl, List.take_of_length_le (by omega)]
        · rw [if_neg (by omega)]
          exact hw.at_ j (by omega)
      · intro k hk1 hk2
        rw [sect_put hi, if_neg (by omega)]
        exact hw.other k (by omega)
end Go.Proofs.YtoafebndlldclaaDoor.Wl

namespace Go.Proofs.YtoafebndlldclaaDoor.Wl
open Dk Fr

theorem Good.ok {D : DS} {L : LS} {recs : List Bs} (h : Good D L recs) : D.Ok := h.calm.ok
theorem Good.few {D : DS} {L : LS} {recs : List Bs} (h : Good D L recs) : recs.length ≤ 10923 := recs_few h.fit (by have := h.hi; have := h.ok.hi; omega)
theorem Good.lastLen {D : DS} {L : LS} {recs : List Bs} (h : Good D L recs) : L.last.length = szs recs % 64 := by
  rw [h.last, List.length_drop, enc_length]; omega
theorem Good.told {D : DS} {L : LS} {recs : List Bs} (h : Good D L recs) : Fr.told L.ep (bytesOf D L.fr (L.to_ - L.fr)) = recs := by
  rw [h.bytes]
  exact told_just h.ep recs _ h.small (by have := h.few; omega) (stops_zeros _ _ _)

/-- what became of an appending -/
inductive Appended (D : DS) (L : LS) (recs texts : List Bs) : DS × LS × Int → Prop
  | ok (D' : DS) (L' : LS) (hfit : szs recs + szs texts ≤ 64 * (L.to_ - L.fr)) (hg : Good D' L' (recs ++ texts)) (hb : Beside L.fr L.to_ D D') (hfr : L'.fr = L.fr) (hto : L'.to_ = L.to_) (hep : L'.ep = L.ep) : Appended D L recs texts (D', L', 0)
  | full (hfit : 64 * (L.to_ - L.fr) < szs recs + szs texts) : Appended D L recs texts (D, L, 2)
  | off (D' : DS) (hfit : szs recs + szs texts ≤ 64 * (L.to_ - L.fr)) (hf : Failed L.fr L.to_ (szs recs) D D') : Appended D L recs texts (D', { L with over := true }, 180)

theorem append_spec {D : DS} {L : LS} {recs : List Bs} (h : Good D L recs) (texts : List Bs) (hs : ∀ t ∈ texts, t.length ≤ 8192) : Appended D L recs texts (appendL D L texts) := by
  obtain ⟨hcalm, hlt, hhi, hover, hmany, hen, hep, hsmall, hfit, hbytes, hlast⟩ := h
  unfold appendL
  rw [if_neg (fun ⟨t, h1, h2⟩ => by have := hs t h1; omega)]
  by_cases ht : texts = []
  · rw [if_pos ht]
    subst ht
    exact .ok D L (by simpa [szs] using hfit) (by rw [List.append_nil]; exact ⟨hcalm, hlt, hhi, hover, hmany, hen, hep, hsmall, hfit, hbytes, hlast⟩) (Beside.refl _ _ _) rfl rfl rfl
  rw [if_neg ht]
  have hroom : L.room = (64 * (L.to_ - L.fr) : Nat) - (szs recs : Nat) := by unfold LS.room; rw [hen]; omega
  by_cases hr : L.room < szs texts
  · rw [if_pos hr]
    exact .full (by omega)
  rw [if_neg hr, if_neg (by simp [hover])]
  have hf2 : szs recs + szs texts ≤ 64 * (L.to_ - L.fr) := by omega
  obtain ⟨n, hn⟩ : ∃ n, n = L.to_ - L.fr := ⟨_, rfl⟩
  obtain ⟨q, hq⟩ : ∃ q, q = szs recs / 64 := ⟨_, rfl⟩
  have hel := enc_length L.ep recs 0
  have hel2 := enc_length L.ep texts L.many
  have hll : L.last.length = szs recs % 64 := by rw [hlast, List.length_drop, hel]; omega
  have hq64 : szs recs - szs recs % 64 = 64 * q := by omega
  obtain ⟨s, hsd⟩ : ∃ s, s = L.last ++ enc L.ep L.many texts := ⟨_, rfl⟩
  have hsl : s.length = szs recs % 64 + szs texts := by rw [hsd, List.length_append, hll, hel2]
  have htp : 0 < szs texts := by
    cases texts with
    | nil => exact absurd rfl ht
    | cons t l => simp [szs]; omega
  have hi : L.fr + L.en / 64 = L.fr + q := by rw [hen, hq]
  have hall : enc L.ep 0 (recs ++ texts) = enc L.ep 0 recs ++ enc L.ep L.many texts := by rw [enc_append, Nat.zero_add, hmany]
  have hsall : s = (enc L.ep 0 (recs ++ texts)).drop (64 * q) := by
    rw [hall, List.drop_append_of_le_length (by rw [hel]; omega), hsd, hlast, hq64]
  rw [← hsd, hi]
  have hso : ∀ i, sect D i = D.olds.getD i [] := hcalm.syn.sect
  have hsb : ∀ k, k < n → sect D (L.fr + k) = ((enc L.ep 0 recs ++ zeros (64 * n - szs recs)).drop (64 * k)).take 64 := by
    intro k hk
    rw [sect_of_bytes hcalm.ok n L.fr k hk (by omega), hn, hbytes, ← hn]
  have hp := putsGo_spec (fr := L.fr) (to_ := L.to_) (en := szs recs) hcalm hhi (L.fr + q) s (by omega) (by omega) (by
    intro j hj
    cases j with
    | zero =>
      have hk : keepN (szs recs) (L.fr + q + 0 - L.fr) = szs recs % 64 := by unfold keepN; omega
      rw [hk]
      refine ⟨by omega, ?_⟩
      rw [← hso, Nat.mul_zero, List.drop_zero, Nat.add_zero, hsb q (by omega), hsd, List.take_append_of_le_length (by omega), List.take_of_length_le (by omega)]
      rw [List.take_take, Nat.min_eq_left (by omega), List.drop_append_of_le_length (by rw [hel]; omega), List.take_append_of_le_length (by rw [List.length_drop, hel]; omega), List.take_of_length_le (by rw [List.length_drop, hel]; omega), hlast, hq64]
    | succ j =>
      have hk : keepN (szs recs) (L.fr + q + (j + 1) - L.fr) = 0 := by unfold keepN; omega
      rw [hk]
      exact ⟨by omega, by simp⟩)
  rcases hp with ⟨e1, hd⟩ | ⟨e1, hf⟩
  rotate_left
  · rw [if_pos e1]; exact .off _ hf2 hf
  rw [if_neg (by rw [e1]; simp)]
  refine .ok _ _ hf2 ⟨hd.calm, hlt, by rw [hd.len]; exact hhi, hover, ?_, ?_, hep, ?_, ?_, ?_, ?_⟩ ⟨hd.len, fun i hi2 hfar => hd.other i hi2 (by omega), hd.fuse⟩ rfl rfl rfl
  · show L.many + texts.length = _; rw [List.length_append, hmany]
  · show L.en + szs texts = _; rw [szs_append, hen]
  · intro t ht2
    rcases List.mem_append.1 ht2 with h1 | h1
    · exact hsmall t h1
    · exact hs t h1
  · show szs (recs ++ texts) ≤ 64 * (L.to_ - L.fr); rw [szs_append]; exact hf2
  · show bytesOf _ L.fr (L.to_ - L.fr) = enc L.ep 0 (recs ++ texts) ++ zeros (64 * (L.to_ - L.fr) - szs (recs ++ texts))
    rw [szs_append, ← hn]
    have e : n = q + (n - q) := by omega
    have h1 : bytesOf (putsGo D (L.fr + q) s).1 L.fr q = (enc L.ep 0 recs).take (64 * q) := by
      rw [bytesOf_congr (D := D) q L.fr (fun k hk => hd.other _ (by omega) (by omega))]
      have h3 := bytesOf_add D (n - q) q L.fr
      rw [← e] at h3
      have h4 := congrArg (List.take (64 * q)) h3
      have h5 := bytesOf_length hcalm.ok q L.fr (by omega)
      rw [List.take_append_of_le_length (by omega), List.take_of_length_le (l := bytesOf D L.fr q) (by omega)] at h4
      rw [← h4, hn, hbytes, List.take_append_of_le_length (by rw [hel]; omega)]
    have h2 : bytesOf (putsGo D (L.fr + q) s).1 (L.fr + q) (n - q) = s ++ zeros (64 * (n - q) - s.length) := by
      refine padded _ _ _ (by omega) ?_
      intro j hj
      by_cases hjs : 64 * j < s.length
      · exact hd.at_ j hjs
      · rw [hd.other (L.fr + q + j) (by omega) (by omega), show L.fr + q + j = L.fr + (q + j) from by omega, hsb (q + j) (by omega)]
        rw [List.drop_append, List.drop_eq_nil_of_le (by rw [hel]; omega), List.nil_append, hel, List.drop_eq_nil_of_le (show s.length ≤ 64 * j by omega)]
        simp only [zeros, pad, List.drop_replicate, List.take_replicate, List.take_nil, List.length_nil, List.nil_append]
        congr 1
        omega
    rw [e, bytesOf_add, h1, h2, ← e, hall, hsd, ← List.append_assoc, ← List.append_assoc]
    congr 1
    · rw [hlast, hq64, List.take_append_drop]
    · congr 1
      rw [← hsd, hsl]
      omega
  · show s.drop (64 * (s.length / 64)) = (enc L.ep 0 (recs ++ texts)).drop (szs (recs ++ texts) - szs (recs ++ texts) % 64)
    rw [hsall, List.drop_drop, szs_append]
    congr 1
    rw [← hsall, hsl]
    omega

/-- with power on again behind a failure: what was there is told, and, where nothing lasts, no more -/
theorem Failed.power {fr to_ ep : Nat} {D0 D : DS} {recs : List Bs} (hep : ep < 18446744073709551616) (h0 : Calm D0) (hto : to_ ≤ D0.olds.length) (hr : Fr.told ep (bytesOf D0 fr (to_ - fr)) = recs) (h : Failed fr to_ (szs recs) D0 D) (fates : List Int) :
    (on D fates).2 = 0 ∧ Calm (on D fates).1 ∧ (on D fates).1.fuse = 0 ∧ (on D fates).1.olds.length = D0.olds.length ∧ (∃ more, Fr.told ep (bytesOf (on D fates).1 fr (to_ - fr)) = recs ++ more) ∧
      (fates = [] → Fr.told ep (bytesOf (on D fates).1 fr (to_ - fr)) = recs) ∧ (∀ i, i < D0.olds.length → i < fr ∨ to_ ≤ i → sect (on D fates).1 i = sect D0 i) := by
  obtain ⟨h1, h2, h3, h4, h5, h6, h7⟩ := h.near.on h.off fates
  refine ⟨h1, h2, h3, h4, ?_, ?_, fun i hi hf => by rw [h6 i hi hf, h0.syn.sect]⟩
  · by_cases hft : fr ≤ to_
    rotate_left
    · refine ⟨[], ?_⟩
      rw [show to_ - fr = 0 from by omega] at hr ⊢
      simp only [bytesOf] at hr ⊢
      rw [hr, List.append_nil]
    have hb := take_bytes (D := D0) (D' := (on D fates).1) h0.ok h2.ok h4 (to_ - fr) fr (szs recs) (by omega) (fun k hk => by
      have := h5 (fr + k) (by omega)
      rw [show fr + k - fr = k from by omega] at this
      rw [this, h0.syn.sect])
    have htk := told_take ep (bytesOf D0 fr (to_ - fr))
    have hsm := told_small ep (bytesOf D0 fr (to_ - fr))
    have hle := toldEnd_le ep (bytesOf D0 fr (to_ - fr))
    rw [toldEnd_eq] at hle
    rw [hr] at htk hsm hle
    have hl0 := bytesOf_length h0.ok (to_ - fr) fr (by omega)
    rw [htk] at hb
    rw [← List.take_append_drop (szs recs) (bytesOf (on D fates).1 fr (to_ - fr)), hb]
    exact told_more hep recs _ hsm (by have := szs_len recs; have := h0.ok.hi; omega)
  · intro e
    have : ∀ i, sect (on D fates).1 i = sect D0 i := by intro i; rw [h2.syn.sect, h7 e, h0.syn.sect]
    rw [bytesOf_congr (D := D0) _ _ (fun k _ => this _)]
    exact hr
end Go.Proofs.YtoafebndlldclaaDoor.Wl
